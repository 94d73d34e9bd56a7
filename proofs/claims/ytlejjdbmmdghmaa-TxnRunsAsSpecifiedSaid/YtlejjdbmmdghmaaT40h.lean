/-
 The functions' code in the evaluator's form (second part),printed by a program of ours from the loaded program,and checked against it.
 Conditions: none.
-/
import Derived.Test.YtlejjdbmmdghmaaT40
import Derived.Test.YtlejjdbmmdghmaaEN13
namespace Go.Proofs.Ytlejjdbmmdghmaa
open Go Go.E2
noncomputable section
-- loop 0: [0, 3, 5]
abbrev zz68_r0:List AI:=[
 aI 2 (.mv true (.c (.int .i64 0)))]
abbrev zz68_r1:List AI:=[
 aI 3 (.mv true (.c (.int .i64 0)))]
abbrev zz68_r2:List AI:=[
 aI 5 (.mv false (.c (.int .i64 0)))]
abbrev zz68_r3:List AI:=[
 aI 6 (.bin .lss (.t 5) (.c (.int .i64 6)))]
abbrev zz68_r4:List AI:=[
 aM 7 5,
 aN 4 7]
abbrev zz68_r5:List AI:=[
 aM 8 3,
 aI 9 (.bin .shl (.t 8) (.c (.int .u64 8))),
 aM 10 0,
 aM 11 4,
 aI 12 (.idxS (.t 10) (.t 11)),
 aI 13 (.conv .i64 (.t 12)),
 aI 14 (.bin .or (.t 9) (.t 13)),
 aN 3 14]
abbrev zz68_r6:List AI:=[
 aI 15 (.bin .add (.t 5) (.c (.int .i64 1))),
 aM 5 15]
abbrev zz68_l0:ACode:=.seq (.reg false zz68_r3) (.seq (.cond (.t 6) (.skip) (.exit 0)) (.seq (.block 1 (.seq (.reg false zz68_r4) (.reg false zz68_r5))) (.reg false zz68_r6)))
abbrev zz68_r7:List AI:=[
 aM 16 3,
 aN 2 16]
abbrev zz68_c:ACode:=.seq (.reg false zz68_r0) (.seq (.reg false zz68_r1) (.seq (.seq (.reg false zz68_r2) (.block 0 (.loop zz68_l0))) (.seq (.reg false zz68_r7) (.ret))))
def zz68_F:AFunc:=⟨17,[.tmp 2],zz68_c⟩
theorem zz68_cp:zf Try.prog [] f_zz68=some zz68_F:=by kernel_rfl
-- loop 0: [0, 3, 7, 8]
abbrev zz66_r0:List AI:=[
 aI 2 (.mv true (.c (.str [])))]
abbrev zz66_r1:List AI:=[
 aI 5 (.gn (.mkSl 1 1 [(.int .u8 0)]) [(.c (.int .i64 6)),(.c (.int .i64 6))]),
 aN 3 5]
abbrev zz66_r2:List AI:=[
 aM 6 3,
 aI 7 (.len false (.t 6)),
 aI 8 (.mv false (.c (.int .i64 0)))]
abbrev zz66_r3:List AI:=[
 aI 9 (.bin .lss (.t 8) (.t 7))]
abbrev zz66_r4:List AI:=[
 aM 10 8,
 aN 4 10]
abbrev zz66_r5:List AI:=[
 aM 11 3,
 aM 12 4,
 aM 13 0,
 aM 14 4,
 aI 15 (.bin .sub (.c (.int .i64 5)) (.t 14)),
 aI 16 (.bin .mul (.c (.int .i64 8)) (.t 15)),
 aI 17 (.bin .shr (.t 13) (.t 16)),
 aI 18 (.conv .u8 (.t 17)),
 aI 19 (.iaddr 1 (.t 11) (.t 12)),
 aS (.store 1 (.t 19) (.t 18) .any)]
abbrev zz66_r6:List AI:=[
 aI 20 (.bin .add (.t 8) (.c (.int .i64 1))),
 aM 8 20]
abbrev zz66_l0:ACode:=.seq (.reg false zz66_r3) (.seq (.cond (.t 9) (.skip) (.exit 0)) (.seq (.block 1 (.seq (.reg false zz66_r4) (.reg false zz66_r5))) (.reg false zz66_r6)))
abbrev zz66_r7:List AI:=[
 aM 21 3,
 aI 22 (.gd .b2s [(.t 21)]),
 aN 2 22]
abbrev zz66_c:ACode:=.seq (.reg false zz66_r0) (.seq (.reg false zz66_r1) (.seq (.seq (.reg false zz66_r2) (.block 0 (.loop zz66_l0))) (.seq (.reg false zz66_r7) (.ret))))
def zz66_F:AFunc:=⟨23,[.tmp 2],zz66_c⟩
theorem zz66_cp:zf Try.prog [5,22] f_zz66=some zz66_F:=by kernel_rfl
abbrev zz71_r0:List AI:=[
 aI 6 (.mv true (.c (.str []))),
 aI 7 (.mv true (.c (.int .i64 0)))]
abbrev zz71_r1:List AI:=[
 aM 11 0,
 aM 12 1,
 aI 13 (.call (.m 11 [(28,f_zz60),(170,f_zz38)]) [(.t 12)] 0),
 aM 10 13,
 aI 14 (.ext (.t 10) 0),
 aI 15 (.ext (.t 10) 1),
 aN 8 14,
 aN 9 15]
abbrev zz71_r2:List AI:=[
 aM 17 9,
 aI 18 (.bin .eql (.t 17) (.c (.int .i64 8))),
 aN 16 18]
abbrev zz71_r3:List AI:=[
 aI 6 (.mv true (.c (.str []))),
 aI 7 (.mv true (.c (.int .i64 0)))]
abbrev zz71_r4:List AI:=[
 aM 20 9,
 aI 21 (.bin .eql (.t 20) (.c (.int .i64 0))),
 aM 22 21,
 aT 23 22 (.mv false (.t 8)),
 aT 24 22 (.len true (.t 23)),
 aT 25 22 (.mv false (.t 2)),
 aT 26 22 (.bin .lss (.t 24) (.t 25)),
 aI 27 (.pick (.t 22) (.t 26) (.c (.bool false))),
 aN 19 27]
abbrev zz71_r5:List AI:=[
 aI 6 (.mv true (.c (.str []))),
 aI 7 (.mv true (.c (.int .i64 14)))]
abbrev zz71_b0:ACode:=.seq (.reg false zz71_r4) (.cond (.t 19) (.seq (.reg false zz71_r5) (.ret)) (.skip))
abbrev zz71_r6:List AI:=[
 aM 28 8,
 aM 29 9,
 aN 6 28,
 aN 7 29]
abbrev zz71_c:ACode:=.seq (.reg false zz71_r0) (.seq (.reg false zz71_r1) (.seq (.block 0 (.seq (.reg false zz71_r2) (.cond (.t 16) (.seq (.reg false zz71_r3) (.ret)) (zz71_b0)))) (.seq (.reg false zz71_r6) (.ret))))
def zz71_F:AFunc:=⟨30,[.tmp 6,.tmp 7],zz71_c⟩
theorem zz71_cp:zf Try.prog [] f_zz71=some zz71_F:=by kernel_rfl
abbrev zz64_r0:List AI:=[
 aI 6 (.mv true (.c (.int .i64 0)))]
abbrev zz64_r1:List AI:=[
 aM 7 2,
 aI 8 (.bin .lss (.t 7) (.c (.int .i64 1))),
 aM 9 8,
 aF 10 9 (.mv false (.t 2)),
 aF 11 9 (.bin .gtr (.t 10) (.c (.int .i64 16))),
 aI 12 (.pick (.t 9) (.c (.bool true)) (.t 11))]
abbrev zz64_r2:List AI:=[
 aI 6 (.mv true (.c (.int .i64 1)))]
abbrev zz64_r3:List AI:=[
 aM 13 0,
 aM 14 1,
 aM 15 2,
 aI 16 (.bin .mul (.c (.int .i64 2)) (.t 15)),
 aI 17 (.bin .add (.t 16) (.c (.int .i64 4))),
 aI 18 (.call (.c (.fn f_zz57)) [(.t 13),(.t 14),(.t 17)] 0),
 aN 6 18]
abbrev zz64_c:ACode:=.seq (.reg false zz64_r0) (.seq (.seq (.reg false zz64_r1) (.cond (.t 12) (.seq (.reg false zz64_r2) (.ret)) (.skip))) (.seq (.reg false zz64_r3) (.ret)))
def zz64_F:AFunc:=⟨19,[.tmp 6],zz64_c⟩
theorem zz64_cp:zf Try.prog [] f_zz64=some zz64_F:=by kernel_rfl
abbrev zz56_r0:List AI:=[
 aI 6 (.mv true (.c .nilI)),
 aI 7 (.mv true (.c (.int .i64 0)))]
abbrev zz56_r1:List AI:=[
 aM 12 0,
 aM 13 1,
 aM 14 2,
 aI 15 (.call (.c (.fn f_zz63)) [(.t 12),(.t 13),(.t 14)] 0),
 aM 11 15,
 aI 16 (.ext (.t 11) 0),
 aI 17 (.ext (.t 11) 1),
 aI 18 (.ext (.t 11) 2),
 aN 8 16,
 aN 9 17,
 aN 10 18]
abbrev zz56_r2:List AI:=[
 aM 19 10,
 aI 20 (.bin .neq (.t 19) (.c (.int .i64 0)))]
abbrev zz56_r3:List AI:=[
 aM 21 10,
 aI 6 (.mv true (.c .nilI)),
 aN 7 21]
abbrev zz56_r4:List AI:=[
 aM 22 9,
 aI 23 (.len false (.t 22)),
 aI 24 (.bin .gtr (.t 23) (.c (.int .i64 0)))]
abbrev zz56_r5:List AI:=[
 aI 6 (.mv true (.c .nilI)),
 aI 7 (.mv true (.c (.int .i64 14)))]
abbrev zz56_r6:List AI:=[
 aM 25 8,
 aI 26 (.gd (.mkI 170) [(.t 25)]),
 aN 6 26,
 aI 7 (.mv true (.c (.int .i64 0)))]
abbrev zz56_c:ACode:=.seq (.reg false zz56_r0) (.seq (.reg false zz56_r1) (.seq (.seq (.reg false zz56_r2) (.cond (.t 20) (.seq (.reg false zz56_r3) (.ret)) (.skip))) (.seq (.seq (.reg false zz56_r4) (.cond (.t 24) (.seq (.reg false zz56_r5) (.ret)) (.skip))) (.seq (.reg false zz56_r6) (.ret)))))
def zz56_F:AFunc:=⟨27,[.tmp 6,.tmp 7],zz56_c⟩
theorem zz56_cp:zf Try.prog [26] f_zz56=some zz56_F:=by kernel_rfl
abbrev zz60_r0:List AI:=[
 aI 4 (.alloc [(.int .i64 0),(.str [])]),
 aI 5 (.mv true (.c (.int .i64 0)))]
abbrev zz60_r1:List AI:=[
 aM 8 1,
 aI 9 (.bin .lss (.t 8) (.c (.int .i64 0))),
 aM 10 9,
 aF 11 10 (.mv false (.t 1)),
 aF 12 10 (.mv false (.t 0)),
 aF 13 10 (.nilck (.t 12)),
 aF 14 10 (.faddr 1 (.t 13)),
 aF 15 10 (.load false 1 (.t 14) .any),
 aF 16 10 (.bin .geq (.t 11) (.t 15)),
 aI 17 (.pick (.t 10) (.c (.bool true)) (.t 16))]
abbrev zz60_r2:List AI:=[
 aI 18 (.build [(.int .i64 0),(.str [])] []),
 aS (.store 2 (.t 4) (.t 18) .any),
 aI 5 (.mv true (.c (.int .i64 1)))]
abbrev zz60_r3:List AI:=[
 aM 20 0,
 aI 21 (.nilck (.t 20)),
 aI 22 (.faddr 0 (.t 21)),
 aI 23 (.load false 1 (.t 22) .any),
 aM 24 1,
 aI 25 (.bin .mul (.c (.int .i64 2)) (.t 24)),
 aI 26 (.call (.c (.fn f_zz71)) [(.t 23),(.t 25),(.c (.int .i64 6))] 0),
 aM 19 26,
 aI 27 (.ext (.t 19) 0),
 aI 28 (.ext (.t 19) 1),
 aN 6 27,
 aN 7 28]
abbrev zz60_r4:List AI:=[
 aM 29 7,
 aI 30 (.bin .neq (.t 29) (.c (.int .i64 0))),
 aM 31 30,
 aF 32 31 (.mv false (.t 6)),
 aF 33 31 (.bin .eql (.t 32) (.c (.str []))),
 aI 34 (.pick (.t 31) (.c (.bool true)) (.t 33))]
abbrev zz60_r5:List AI:=[
 aI 35 (.build [(.int .i64 0),(.str [])] []),
 aM 36 7,
 aS (.store 2 (.t 4) (.t 35) .any),
 aN 5 36]
abbrev zz60_r6:List AI:=[
 aM 37 6,
 aM 39 6,
 aI 40 (.slS (.t 39) (some (.c (.int .i64 6))) none),
 aI 38 (.call (.c (.fn f_zz68)) [(.t 37)] 2),
 aI 41 (.build [(.int .i64 0),(.str [])] [(0,1,(.t 38)),(1,1,(.t 40))]),
 aS (.store 2 (.t 4) (.t 41) (.site 4)),
 aI 5 (.mv true (.c (.int .i64 0)))]
abbrev zz60_c:ACode:=.seq (.reg false zz60_r0) (.seq (.seq (.reg false zz60_r1) (.cond (.t 17) (.seq (.reg false zz60_r2) (.ret)) (.skip))) (.seq (.reg false zz60_r3) (.seq (.seq (.reg false zz60_r4) (.cond (.t 34) (.seq (.reg false zz60_r5) (.ret)) (.skip))) (.seq (.reg true zz60_r6) (.ret)))))
def zz60_F:AFunc:=⟨42,[.cell 4 true 2,.tmp 5],zz60_c⟩
theorem zz60_cp:zf Try.prog [] f_zz60=some zz60_F:=by kernel_rfl
-- loop 0: [0, 1, 5, 8, 9, 10]
abbrev zz52_r0:List AI:=[
 aI 4 (.mv true (.c (.bool false)))]
abbrev zz52_r1:List AI:=[
 aI 5 (.mv true (.c (.int .i64 0)))]
abbrev zz52_r2:List AI:=[
 aM 8 1,
 aI 9 (.len false (.t 8)),
 aI 10 (.mv false (.c (.int .i64 0)))]
abbrev zz52_r3:List AI:=[
 aI 11 (.bin .lss (.t 10) (.t 9))]
abbrev zz52_r4:List AI:=[
 aI 12 (.iaddr 4 (.t 8) (.t 10)),
 aI 13 (.load true 4 (.t 12) .any),
 aI 7 (.alloc [(.int .i64 0),(.int .i64 0),(.str []),(.bool false)]),
 aS (.store 4 (.t 7) (.t 13) .any)]
abbrev zz52_r5:List AI:=[
 aI 14 (.faddr 0 (.t 7)),
 aI 15 (.load false 1 (.t 14) (.site 7)),
 aI 16 (.bin .lss (.t 15) (.c (.int .i64 0))),
 aM 17 16,
 aF 18 17 (.faddr 0 (.t 7)),
 aF 19 17 (.load false 1 (.t 18) (.site 7)),
 aF 20 17 (.mv false (.t 0)),
 aF 21 17 (.nilck (.t 20)),
 aF 22 17 (.faddr 1 (.t 21)),
 aF 23 17 (.load false 1 (.t 22) .foreign),
 aF 24 17 (.bin .geq (.t 19) (.t 23)),
 aI 25 (.pick (.t 17) (.c (.bool true)) (.t 24)),
 aM 26 25,
 aF 27 26 (.mv false (.t 5)),
 aF 28 26 (.faddr 0 (.t 7)),
 aF 29 26 (.load false 1 (.t 28) (.site 7)),
 aF 30 26 (.bin .shr (.t 27) (.t 29)),
 aF 31 26 (.bin .and (.t 30) (.c (.int .i64 1))),
 aF 32 26 (.bin .eql (.t 31) (.c (.int .i64 1))),
 aI 33 (.pick (.t 26) (.c (.bool true)) (.t 32)),
 aM 34 33,
 aF 35 34 (.faddr 1 (.t 7)),
 aF 36 34 (.load false 1 (.t 35) (.site 7)),
 aF 37 34 (.bin .lss (.t 36) (.c (.int .i64 0))),
 aI 38 (.pick (.t 34) (.c (.bool true)) (.t 37)),
 aM 39 38,
 aF 40 39 (.faddr 1 (.t 7)),
 aF 41 39 (.load false 1 (.t 40) (.site 7)),
 aF 42 39 (.bin .gtr (.t 41) (.c (.int .i64 1099511627776))),
 aI 43 (.pick (.t 39) (.c (.bool true)) (.t 42)),
 aM 44 43,
 aF 45 44 (.faddr 2 (.t 7)),
 aF 46 44 (.load false 1 (.t 45) (.site 7)),
 aF 47 44 (.len true (.t 46)),
 aF 48 44 (.bin .gtr (.t 47) (.c (.int .i64 40))),
 aI 49 (.pick (.t 44) (.c (.bool true)) (.t 48)),
 aM 50 49,
 aF 51 50 (.faddr 3 (.t 7)),
 aF 52 50 (.load false 1 (.t 51) (.site 7)),
 aF 53 50 (.mv false (.t 52)),
 aT 54 53 (.faddr 2 (.t 7)),
 aT 55 53 (.load false 1 (.t 54) (.site 7)),
 aT 56 53 (.bin .neq (.t 55) (.c (.str []))),
 aF 57 50 (.pick (.t 53) (.t 56) (.c (.bool false))),
 aI 58 (.pick (.t 50) (.c (.bool true)) (.t 57))]
abbrev zz52_r6:List AI:=[
 aI 4 (.mv true (.c (.bool false)))]
abbrev zz52_r7:List AI:=[
 aM 59 5,
 aI 60 (.faddr 0 (.t 7)),
 aI 61 (.load false 1 (.t 60) .any),
 aI 62 (.bin .shl (.c (.int .i64 1)) (.t 61)),
 aI 63 (.bin .or (.t 59) (.t 62)),
 aN 5 63]
abbrev zz52_r8:List AI:=[
 aI 64 (.bin .add (.t 10) (.c (.int .i64 1))),
 aM 10 64]
abbrev zz52_l0:ACode:=.seq (.reg false zz52_r3) (.seq (.cond (.t 11) (.skip) (.exit 0)) (.seq (.block 1 (.seq (.reg false zz52_r4) (.seq (.seq (.reg true zz52_r5) (.cond (.t 58) (.seq (.reg false zz52_r6) (.ret)) (.skip))) (.reg false zz52_r7)))) (.reg false zz52_r8)))
abbrev zz52_r9:List AI:=[
 aM 65 1,
 aI 66 (.len false (.t 65)),
 aI 67 (.bin .geq (.t 66) (.c (.int .i64 1))),
 aM 68 67,
 aT 69 68 (.mv false (.t 1)),
 aT 70 68 (.len false (.t 69)),
 aT 71 68 (.bin .leq (.t 70) (.c (.int .i64 16))),
 aI 72 (.pick (.t 68) (.t 71) (.c (.bool false))),
 aN 4 72]
abbrev zz52_c:ACode:=.seq (.reg false zz52_r0) (.seq (.reg false zz52_r1) (.seq (.seq (.reg false zz52_r2) (.block 0 (.loop zz52_l0))) (.seq (.reg false zz52_r9) (.ret))))
def zz52_F:AFunc:=⟨73,[.tmp 4],zz52_c⟩
theorem zz52_cp:zf Try.prog [] f_zz52=some zz52_F:=by kernel_rfl
abbrev zz1_r0:List AI:=[
 aI 4 (.mv true (.c (.bool false)))]
abbrev zz1_r1:List AI:=[
 aM 5 0,
 aM 6 1,
 aI 7 (.call (.c (.fn f_zz3)) [(.t 5),(.t 6)] 0),
 aI 8 (.bin .geq (.t 7) (.c (.int .i64 0))),
 aN 4 8]
abbrev zz1_c:ACode:=.seq (.reg false zz1_r0) (.seq (.reg false zz1_r1) (.ret))
def zz1_F:AFunc:=⟨9,[.tmp 4],zz1_c⟩
theorem zz1_cp:zf Try.prog [] f_zz1=some zz1_F:=by kernel_rfl
-- loop 0: [0, 1, 7, 8]
abbrev zz3_r0:List AI:=[
 aI 4 (.mv true (.c (.int .i64 0)))]
abbrev zz3_r1:List AI:=[
 aM 6 0,
 aI 7 (.len false (.t 6)),
 aI 8 (.mv false (.c (.int .i64 0)))]
abbrev zz3_r2:List AI:=[
 aI 9 (.bin .lss (.t 8) (.t 7))]
abbrev zz3_r3:List AI:=[
 aM 10 8,
 aN 5 10]
abbrev zz3_r4:List AI:=[
 aM 11 1,
 aM 12 0,
 aM 13 5,
 aI 14 (.iaddr 4 (.t 12) (.t 13)),
 aI 15 (.load true 4 (.t 14) .any),
 aI 16 (.call (.t 11) [(.t 15)] 0)]
abbrev zz3_r5:List AI:=[
 aM 17 5,
 aN 4 17]
abbrev zz3_r6:List AI:=[
 aI 18 (.bin .add (.t 8) (.c (.int .i64 1))),
 aM 8 18]
abbrev zz3_l0:ACode:=.seq (.reg false zz3_r2) (.seq (.cond (.t 9) (.skip) (.exit 0)) (.seq (.block 1 (.seq (.reg false zz3_r3) (.seq (.reg false zz3_r4) (.cond (.t 16) (.seq (.reg false zz3_r5) (.ret)) (.skip))))) (.reg false zz3_r6)))
abbrev zz3_r7:List AI:=[
 aI 4 (.mv true (.c (.int .i64 (-1))))]
abbrev zz3_c:ACode:=.seq (.reg false zz3_r0) (.seq (.seq (.reg false zz3_r1) (.block 0 (.loop zz3_l0))) (.seq (.reg false zz3_r7) (.ret)))
def zz3_F:AFunc:=⟨19,[.tmp 4],zz3_c⟩
theorem zz3_cp:zf Try.prog [] f_zz3=some zz3_F:=by kernel_rfl
-- loop 0: [3, 11]
abbrev zz54_r0:List AI:=[
 aI 3 (.gn (.box 4) [(.t 1)]),
 aI 4 (.mv true (.c (.bool false)))]
abbrev zz54_r1:List AI:=[
 aM 7 0,
 aI 8 (.nilck (.t 7)),
 aI 9 (.faddr 2 (.t 8)),
 aI 10 (.load false 1 (.t 9) .any),
 aI 11 (.gn .rng [(.t 10)])]
abbrev zz54_r2:List AI:=[
 aI 12 (.gn .nxt [(.t 11)]),
 aI 13 (.ext (.t 12) 0)]
abbrev zz54_r3:List AI:=[
 aI 14 (.gd .entry [(.t 11)]),
 aI 15 (.ext (.t 14) 1),
 aI 6 (.alloc [(.int .i64 0),.nilS]),
 aS (.store 2 (.t 6) (.t 15) .any)]
abbrev zz54_r4:List AI:=[
 aI 16 (.faddr 1 (.t 6)),
 aI 17 (.load false 1 (.t 16) .any),
 aI 18 (.gd (.clo f_zz46) [(.t 3)]),
 aI 19 (.call (.c (.fn f_zz1)) [(.t 17),(.t 18)] 0)]
abbrev zz54_r5:List AI:=[
 aI 4 (.mv true (.c (.bool true)))]
abbrev zz54_l0:ACode:=.seq (.reg false zz54_r2) (.seq (.cond (.t 13) (.skip) (.exit 0)) (.block 1 (.seq (.reg false zz54_r3) (.seq (.reg false zz54_r4) (.cond (.t 19) (.seq (.reg false zz54_r5) (.ret)) (.skip))))))
abbrev zz54_r6:List AI:=[
 aI 4 (.mv true (.c (.bool false)))]
abbrev zz54_c:ACode:=.seq (.reg false zz54_r0) (.seq (.seq (.reg false zz54_r1) (.block 0 (.loop zz54_l0))) (.seq (.reg false zz54_r6) (.ret)))
def zz54_F:AFunc:=⟨20,[.tmp 4],zz54_c⟩
theorem zz54_cp:zf Try.prog [3,11,18] f_zz54=some zz54_F:=by kernel_rfl
abbrev zz46_r0:List AI:=[
 aI 2 (.box 4 (.t 0)),
 aI 3 (.mv true (.c (.bool false)))]
abbrev zz46_r1:List AI:=[
 aI 4 (.faddr 0 (.t 2)),
 aI 5 (.load false 1 (.t 4) .any),
 aI 6 (.faddr 0 (.t 1)),
 aI 7 (.load false 1 (.t 6) .any),
 aI 8 (.bin .eql (.t 5) (.t 7)),
 aM 9 8,
 aT 10 9 (.faddr 3 (.t 2)),
 aT 11 9 (.load false 1 (.t 10) .any),
 aT 12 9 (.mv false (.t 11)),
 aT 13 12 (.faddr 3 (.t 1)),
 aT 14 12 (.load false 1 (.t 13) .any),
 aT 15 9 (.pick (.t 12) (.t 14) (.c (.bool false))),
 aT 16 9 (.not (.t 15)),
 aI 17 (.pick (.t 9) (.t 16) (.c (.bool false))),
 aN 3 17]
abbrev zz46_c:ACode:=.seq (.reg false zz46_r0) (.seq (.reg false zz46_r1) (.ret))
def zz46_F:AFunc:=⟨18,[.tmp 3],zz46_c⟩
theorem zz46_cp:zf Try.prog [] f_zz46=some zz46_F:=by kernel_rfl
-- loop 0: [1, 11]
abbrev zz61_r0:List AI:=[
 aI 4 (.mv true (.c (.bool false)))]
abbrev zz61_r1:List AI:=[
 aM 7 0,
 aI 8 (.nilck (.t 7)),
 aI 9 (.faddr 2 (.t 8)),
 aI 10 (.load false 1 (.t 9) .any),
 aI 11 (.gn .rng [(.t 10)])]
abbrev zz61_r2:List AI:=[
 aI 12 (.gn .nxt [(.t 11)]),
 aI 13 (.ext (.t 12) 0)]
abbrev zz61_r3:List AI:=[
 aI 14 (.gd .entry [(.t 11)]),
 aI 15 (.ext (.t 14) 1),
 aI 6 (.alloc [(.int .i64 0),.nilS]),
 aS (.store 2 (.t 6) (.t 15) .any)]
abbrev zz61_r4:List AI:=[
 aM 16 1,
 aI 17 (.load true 2 (.t 6) .any),
 aI 18 (.call (.t 16) [(.t 17)] 0)]
abbrev zz61_r5:List AI:=[
 aI 4 (.mv true (.c (.bool true)))]
abbrev zz61_l0:ACode:=.seq (.reg false zz61_r2) (.seq (.cond (.t 13) (.skip) (.exit 0)) (.block 1 (.seq (.reg false zz61_r3) (.seq (.reg false zz61_r4) (.cond (.t 18) (.seq (.reg false zz61_r5) (.ret)) (.skip))))))
abbrev zz61_r6:List AI:=[
 aI 4 (.mv true (.c (.bool false)))]
abbrev zz61_c:ACode:=.seq (.reg false zz61_r0) (.seq (.seq (.reg false zz61_r1) (.block 0 (.loop zz61_l0))) (.seq (.reg false zz61_r6) (.ret)))
def zz61_F:AFunc:=⟨19,[.tmp 4],zz61_c⟩
theorem zz61_cp:zf Try.prog [11] f_zz61=some zz61_F:=by kernel_rfl
abbrev zz21_r0:List AI:=[
 aI 2 (.box 2 (.t 0)),
 aI 3 (.mv true (.c (.bool false)))]
abbrev zz21_r1:List AI:=[
 aI 4 (.faddr 0 (.t 2)),
 aI 5 (.load false 1 (.t 4) .any),
 aI 6 (.load false 1 (.t 1) .any),
 aI 7 (.bin .eql (.t 5) (.t 6)),
 aN 3 7]
abbrev zz21_c:ACode:=.seq (.reg false zz21_r0) (.seq (.reg false zz21_r1) (.ret))
def zz21_F:AFunc:=⟨8,[.tmp 3],zz21_c⟩
theorem zz21_cp:zf Try.prog [] f_zz21=some zz21_F:=by kernel_rfl
abbrev zz4_r0:List AI:=[
 aI 2 (.mv true (.c .nilS))]
abbrev zz4_r1:List AI:=[
 aM 3 0,
 aI 4 (.isnil false (.t 3))]
abbrev zz4_r2:List AI:=[
 aI 2 (.mv true (.c .nilS))]
abbrev zz4_r3:List AI:=[
 aI 5 (.mkslice 4 0 (.agg [(.int .i64 0),(.int .i64 0),(.str []),(.bool false)]) []),
 aM 6 0,
 aI 7 (.append 4 40 (.t 5) (.t 6)),
 aN 2 7]
abbrev zz4_c:ACode:=.seq (.reg false zz4_r0) (.seq (.seq (.reg false zz4_r1) (.cond (.t 4) (.seq (.reg false zz4_r2) (.ret)) (.skip))) (.seq (.reg false zz4_r3) (.ret)))
def zz4_F:AFunc:=⟨8,[.tmp 2],zz4_c⟩
theorem zz4_cp:zf Try.prog [] f_zz4=some zz4_F:=by kernel_rfl
-- loop 0: [0, 1, 2, 46, 47, 48]
-- loop 1: [0, 1, 2, 13, 14]
-- loop 2: [0, 1, 2, 13, 15, 92, 93, 94]
abbrev zz35_r0:List AI:=[
 aI 6 (.mv true (.c (.int .i64 0)))]
abbrev zz35_r1:List AI:=[
 aM 20 1,
 aI 21 (.bin .lss (.t 20) (.c (.int .i64 1))),
 aM 22 21,
 aF 23 22 (.mv false (.t 1)),
 aF 24 22 (.bin .gtr (.t 23) (.c (.int .i64 1099511627776))),
 aI 25 (.pick (.t 22) (.c (.bool true)) (.t 24)),
 aM 26 25,
 aF 27 26 (.mv false (.t 0)),
 aF 28 26 (.mv false (.t 2)),
 aF 29 26 (.call (.c (.fn f_zz52)) [(.t 27),(.t 28)] 0),
 aF 30 26 (.not (.t 29)),
 aI 31 (.pick (.t 26) (.c (.bool true)) (.t 30))]
abbrev zz35_r2:List AI:=[
 aI 6 (.mv true (.c (.int .i64 1)))]
abbrev zz35_r3:List AI:=[
 aM 33 0,
 aI 34 (.nilck (.t 33)),
 aI 35 (.faddr 2 (.t 34)),
 aI 36 (.load false 1 (.t 35) .any),
 aM 37 1,
 aI 38 (.gd (.mlook [.i] (.agg [(.int .i64 0),.nilS]) true) [(.t 36),(.t 37)]),
 aM 32 38,
 aI 39 (.ext (.t 32) 0),
 aI 40 (.ext (.t 32) 1),
 aI 7 (.alloc [(.int .i64 0),.nilS]),
 aS (.store 2 (.t 7) (.t 39) .any),
 aN 8 40]
abbrev zz35_r4:List AI:=[
 aM 41 8]
abbrev zz35_r5:List AI:=[
 aI 6 (.mv true (.c (.int .i64 9)))]
abbrev zz35_r6:List AI:=[
 aM 42 2,
 aM 43 0,
 aI 44 (.gd (.bnd f_zz54) [(.t 43)]),
 aI 45 (.call (.c (.fn f_zz1)) [(.t 42),(.t 44)] 0)]
abbrev zz35_r7:List AI:=[
 aI 6 (.mv true (.c (.int .i64 4)))]
abbrev zz35_r8:List AI:=[
 aM 46 2,
 aI 47 (.len false (.t 46)),
 aI 48 (.mv false (.c (.int .i64 0)))]
abbrev zz35_r9:List AI:=[
 aI 49 (.bin .lss (.t 48) (.t 47))]
abbrev zz35_r10:List AI:=[
 aI 50 (.iaddr 4 (.t 46) (.t 48)),
 aI 51 (.load true 4 (.t 50) .any),
 aI 10 (.alloc [(.int .i64 0),(.int .i64 0),(.str []),(.bool false)]),
 aS (.store 4 (.t 10) (.t 51) .any)]
abbrev zz35_r11:List AI:=[
 aM 53 0,
 aI 54 (.faddr 0 (.t 10)),
 aI 55 (.load false 1 (.t 54) .any),
 aI 56 (.call (.c (.fn f_zz60)) [(.t 53),(.t 55)] 0),
 aM 52 56,
 aI 57 (.ext (.t 52) 0),
 aI 58 (.ext (.t 52) 1),
 aI 11 (.alloc [(.int .i64 0),(.str [])]),
 aS (.store 2 (.t 11) (.t 57) .any),
 aN 12 58]
abbrev zz35_r12:List AI:=[
 aM 59 12,
 aI 60 (.bin .neq (.t 59) (.c (.int .i64 0)))]
abbrev zz35_r13:List AI:=[
 aM 61 12,
 aN 6 61]
abbrev zz35_r14:List AI:=[
 aI 62 (.faddr 0 (.t 11)),
 aI 63 (.load false 1 (.t 62) .any),
 aI 64 (.faddr 1 (.t 10)),
 aI 65 (.load false 1 (.t 64) .any),
 aI 66 (.bin .neq (.t 63) (.t 65))]
abbrev zz35_r15:List AI:=[
 aI 6 (.mv true (.c (.int .i64 15)))]
abbrev zz35_r16:List AI:=[
 aI 67 (.bin .add (.t 48) (.c (.int .i64 1))),
 aM 48 67]
abbrev zz35_l0:ACode:=.seq (.reg false zz35_r9) (.seq (.cond (.t 49) (.skip) (.exit 0)) (.seq (.block 1 (.seq (.reg false zz35_r10) (.seq (.reg false zz35_r11) (.seq (.seq (.reg false zz35_r12) (.cond (.t 60) (.seq (.reg false zz35_r13) (.ret)) (.skip))) (.seq (.reg false zz35_r14) (.cond (.t 66) (.seq (.reg false zz35_r15) (.ret)) (.skip))))))) (.reg false zz35_r16)))
abbrev zz35_r17:List AI:=[
 aM 68 0,
 aI 69 (.nilck (.t 68)),
 aI 70 (.faddr 1 (.t 69)),
 aI 71 (.load false 1 (.t 70) .any),
 aI 72 (.bin .mul (.c (.int .i64 2)) (.t 71)),
 aI 13 (.gn (.alloc [(.int .i64 0)]) []),
 aS (.store 1 (.t 13) (.t 72) .any)]
abbrev zz35_r18:List AI:=[
 aI 73 (.gd (.clo f_zz21) [(.t 13)]),
 aN 14 73]
abbrev zz35_r19:List AI:=[
 aM 74 0,
 aM 75 14,
 aI 76 (.call (.c (.fn f_zz61)) [(.t 74),(.t 75)] 0)]
abbrev zz35_r20:List AI:=[
 aI 77 (.load false 1 (.t 13) .any),
 aI 78 (.bin .add (.t 77) (.c (.int .i64 1))),
 aS (.store 1 (.t 13) (.t 78) .any)]
abbrev zz35_l1:ACode:=.seq (.seq (.reg false zz35_r19) (.cond (.t 76) (.skip) (.exit 2))) (.seq (.block 3 (.skip)) (.reg false zz35_r20))
abbrev zz35_r21:List AI:=[
 aI 79 (.load false 1 (.t 13) .foreign),
 aM 80 0,
 aI 81 (.nilck (.t 80)),
 aI 82 (.faddr 1 (.t 81)),
 aI 83 (.load false 1 (.t 82) .foreign),
 aI 84 (.bin .mul (.c (.int .i64 2)) (.t 83)),
 aI 85 (.bin .add (.t 84) (.c (.int .i64 4))),
 aI 86 (.bin .eql (.t 79) (.t 85))]
abbrev zz35_r22:List AI:=[
 aI 6 (.mv true (.c (.int .i64 13)))]
abbrev zz35_r23:List AI:=[
 aM 87 1,
 aI 88 (.call (.c (.fn f_zz66)) [(.t 87)] 0),
 aI 89 (.append 1 0 (.c (.str [])) (.t 88)),
 aI 90 (.mkslice 1 1 (.int .u8 0) [(0,(.c (.int .u8 1)))]),
 aI 91 (.append 1 1 (.t 89) (.t 90)),
 aN 15 91]
abbrev zz35_r24:List AI:=[
 aM 92 2,
 aI 93 (.len false (.t 92)),
 aI 94 (.mv false (.c (.int .i64 0)))]
abbrev zz35_r25:List AI:=[
 aI 95 (.bin .lss (.t 94) (.t 93))]
abbrev zz35_r26:List AI:=[
 aI 96 (.iaddr 4 (.t 92) (.t 94)),
 aI 97 (.load true 4 (.t 96) .any),
 aI 17 (.alloc [(.int .i64 0),(.int .i64 0),(.str []),(.bool false)]),
 aS (.store 4 (.t 17) (.t 97) .any)]
abbrev zz35_r27:List AI:=[
 aI 98 (.faddr 3 (.t 17)),
 aI 99 (.load false 1 (.t 98) .any)]
abbrev zz35_r28:List AI:=[
 aN 100 15,
 aI 101 (.faddr 0 (.t 17)),
 aI 102 (.load false 1 (.t 101) .any),
 aI 103 (.conv .u8 (.t 102)),
 aI 104 (.bin .or (.t 103) (.c (.int .u8 128))),
 aI 105 (.mkslice 1 1 (.int .u8 0) [(0,(.t 104))]),
 aI 106 (.append 1 1 (.t 100) (.t 105)),
 aN 15 106]
abbrev zz35_r29:List AI:=[
 aN 107 15,
 aI 108 (.faddr 0 (.t 17)),
 aI 109 (.load false 1 (.t 108) .any),
 aI 110 (.conv .u8 (.t 109)),
 aI 111 (.mkslice 1 1 (.int .u8 0) [(0,(.t 110))]),
 aI 112 (.append 1 1 (.t 107) (.t 111)),
 aN 15 112]
abbrev zz35_r30:List AI:=[
 aM 113 0,
 aI 114 (.nilck (.t 113)),
 aI 115 (.faddr 0 (.t 114)),
 aI 116 (.load false 1 (.t 115) .foreign),
 aI 117 (.faddr 0 (.t 17)),
 aI 118 (.load false 1 (.t 117) (.site 17)),
 aI 119 (.bin .mul (.c (.int .i64 2)) (.t 118)),
 aI 120 (.bin .add (.t 119) (.c (.int .i64 1))),
 aM 121 1,
 aI 123 (.faddr 1 (.t 17)),
 aI 124 (.load false 1 (.t 123) (.site 17)),
 aI 125 (.bin .add (.t 124) (.c (.int .i64 1))),
 aI 128 (.faddr 2 (.t 17)),
 aI 129 (.load false 1 (.t 128) (.site 17)),
 aI 131 (.nilck (.t 116)),
 aM 132 116,
 aI 122 (.call (.c (.fn f_zz66)) [(.t 121)] 1),
 aI 126 (.call (.c (.fn f_zz66)) [(.t 125)] 1),
 aI 127 (.bin .add (.t 122) (.t 126)),
 aI 130 (.bin .add (.t 127) (.t 129)),
 aI 133 (.call (.m 132 [(170,f_zz39)]) [(.t 120),(.t 130)] 2),
 aN 18 133]
abbrev zz35_r31:List AI:=[
 aM 134 18,
 aI 135 (.bin .neq (.t 134) (.c (.int .i64 0)))]
abbrev zz35_r32:List AI:=[
 aM 136 18,
 aN 6 136]
abbrev zz35_r33:List AI:=[
 aI 137 (.bin .add (.t 94) (.c (.int .i64 1))),
 aM 94 137]
abbrev zz35_l2:ACode:=.seq (.reg false zz35_r25) (.seq (.cond (.t 95) (.skip) (.exit 4)) (.seq (.block 5 (.seq (.reg false zz35_r26) (.seq (.seq (.reg false zz35_r27) (.cond (.t 99) (.seq (.reg false zz35_r28) (.exit 5)) (.skip))) (.seq (.reg false zz35_r29) (.seq (.reg true zz35_r30) (.seq (.reg false zz35_r31) (.cond (.t 135) (.seq (.reg false zz35_r32) (.ret)) (.skip)))))))) (.reg false zz35_r33)))
abbrev zz35_r34:List AI:=[
 aM 138 0,
 aI 139 (.nilck (.t 138)),
 aI 140 (.faddr 0 (.t 139)),
 aI 141 (.load false 1 (.t 140) .foreign),
 aI 142 (.load false 1 (.t 13) .foreign),
 aM 143 15,
 aI 144 (.b2s (.t 143)),
 aI 145 (.call (.m 141 [(170,f_zz39)]) [(.t 142),(.t 144)] 2),
 aN 19 145]
abbrev zz35_r35:List AI:=[
 aM 146 19,
 aI 147 (.bin .neq (.t 146) (.c (.int .i64 0)))]
abbrev zz35_r36:List AI:=[
 aM 148 19,
 aN 6 148]
abbrev zz35_r37:List AI:=[
 aM 149 0,
 aI 150 (.nilck (.t 149)),
 aI 151 (.faddr 2 (.t 150)),
 aI 152 (.load false 1 (.t 151) .foreign),
 aM 153 1,
 aI 154 (.load false 1 (.t 13) .foreign),
 aM 155 2,
 aI 156 (.call (.c (.fn f_zz4)) [(.t 155)] 1),
 aI 157 (.build [(.int .i64 0),.nilS] [(0,1,(.t 154)),(1,1,(.t 156))]),
 aS (.gd (.mset [.i]) [(.t 152),(.t 153),(.t 157)])]
abbrev zz35_r38:List AI:=[
 aI 6 (.mv true (.c (.int .i64 0)))]
abbrev zz35_c:ACode:=.seq (.reg false zz35_r0) (.seq (.seq (.reg false zz35_r1) (.cond (.t 31) (.seq (.reg false zz35_r2) (.ret)) (.skip))) (.seq (.seq (.reg false zz35_r3) (.seq (.reg false zz35_r4) (.cond (.t 41) (.seq (.reg false zz35_r5) (.ret)) (.skip)))) (.seq (.seq (.reg false zz35_r6) (.cond (.t 45) (.seq (.reg false zz35_r7) (.ret)) (.skip))) (.seq (.seq (.reg false zz35_r8) (.block 0 (.loop zz35_l0))) (.seq (.reg false zz35_r17) (.seq (.reg false zz35_r18) (.seq (.block 2 (.loop zz35_l1)) (.seq (.seq (.reg true zz35_r21) (.cond (.t 86) (.seq (.reg false zz35_r22) (.ret)) (.skip))) (.seq (.reg false zz35_r23) (.seq (.seq (.reg false zz35_r24) (.block 4 (.loop zz35_l2))) (.seq (.seq (.reg true zz35_r34) (.seq (.reg false zz35_r35) (.cond (.t 147) (.seq (.reg false zz35_r36) (.ret)) (.skip)))) (.seq (.reg true zz35_r37) (.seq (.reg false zz35_r38) (.ret))))))))))))))
def zz35_F:AFunc:=⟨158,[.tmp 6],zz35_c⟩
theorem zz35_cp:zf Try.prog [13,44,73,89,133,145] f_zz35=some zz35_F:=by kernel_rfl
abbrev zz26_r0:List AI:=[
 aI 3 (.load false 1 (.t 0) .any),
 aI 4 (.bin .eql (.t 3) (.c (.int .i64 0)))]
abbrev zz26_r1:List AI:=[
 aI 5 (.load false 1 (.t 1) .foreign),
 aI 6 (.nilck (.t 5)),
 aI 7 (.faddr 2 (.t 6)),
 aI 8 (.load false 1 (.t 7) .foreign),
 aI 9 (.load false 1 (.t 2) .foreign),
 aS (.gd (.mdel [.i]) [(.t 8),(.t 9)])]
abbrev zz26_c:ACode:=.seq (.reg false zz26_r0) (.cond (.t 4) (.reg true zz26_r1) (.skip))
def zz26_F:AFunc:=⟨10,[],zz26_c⟩
theorem zz26_cp:zf Try.prog [] f_zz26=some zz26_F:=by kernel_rfl
-- loop 0: [0, 1, 5, 14, 15, 16]
abbrev zz45_r0:List AI:=[
 aI 5 (.box 2 (.t 2)),
 aI 6 (.mv true (.c (.int .i64 0)))]
abbrev zz45_r1:List AI:=[
 aI 13 (.faddr 1 (.t 5)),
 aI 14 (.load false 1 (.t 13) .any),
 aI 15 (.len false (.t 14)),
 aI 16 (.mv false (.c (.int .i64 0)))]
abbrev zz45_r2:List AI:=[
 aI 17 (.bin .lss (.t 16) (.t 15))]
abbrev zz45_r3:List AI:=[
 aI 18 (.iaddr 4 (.t 14) (.t 16)),
 aI 19 (.load true 4 (.t 18) .any),
 aI 8 (.alloc [(.int .i64 0),(.int .i64 0),(.str []),(.bool false)]),
 aS (.store 4 (.t 8) (.t 19) .any)]
abbrev zz45_r4:List AI:=[
 aI 20 (.faddr 3 (.t 8)),
 aI 21 (.load false 1 (.t 20) .any)]
abbrev zz45_r5:List AI:=[
 aM 23 0,
 aI 24 (.nilck (.t 23)),
 aI 25 (.faddr 0 (.t 24)),
 aI 26 (.load false 1 (.t 25) .foreign),
 aI 27 (.faddr 0 (.t 8)),
 aI 28 (.load false 1 (.t 27) (.site 8)),
 aI 29 (.bin .mul (.c (.int .i64 2)) (.t 28)),
 aI 30 (.bin .add (.t 29) (.c (.int .i64 1))),
 aI 31 (.call (.c (.fn f_zz71)) [(.t 26),(.t 30),(.c (.int .i64 12))] 2),
 aM 22 31,
 aI 32 (.ext (.t 22) 0),
 aI 33 (.ext (.t 22) 1),
 aN 9 32,
 aN 10 33]
abbrev zz45_r6:List AI:=[
 aM 34 10,
 aI 35 (.bin .neq (.t 34) (.c (.int .i64 0)))]
abbrev zz45_r7:List AI:=[
 aM 36 10,
 aN 6 36]
abbrev zz45_r8:List AI:=[
 aM 37 9,
 aI 38 (.bin .eql (.t 37) (.c (.str []))),
 aM 39 38,
 aF 40 39 (.mv false (.t 9)),
 aF 41 39 (.call (.c (.fn f_zz68)) [(.t 40)] 0),
 aF 42 39 (.mv false (.t 1)),
 aF 43 39 (.bin .neq (.t 41) (.t 42)),
 aI 44 (.pick (.t 39) (.c (.bool true)) (.t 43))]
abbrev zz45_r9:List AI:=[
 aM 45 0,
 aI 46 (.nilck (.t 45)),
 aI 47 (.faddr 0 (.t 46)),
 aI 48 (.load false 1 (.t 47) .foreign),
 aI 49 (.faddr 0 (.t 8)),
 aI 50 (.load false 1 (.t 49) (.site 8)),
 aI 51 (.bin .mul (.c (.int .i64 2)) (.t 50)),
 aM 52 9,
 aI 53 (.slS (.t 52) (some (.c (.int .i64 6))) none),
 aI 54 (.nilck (.t 48)),
 aM 55 48,
 aI 56 (.call (.m 55 [(170,f_zz39)]) [(.t 51),(.t 53)] 2),
 aN 11 56]
abbrev zz45_r10:List AI:=[
 aM 57 11,
 aI 58 (.bin .neq (.t 57) (.c (.int .i64 0)))]
abbrev zz45_r11:List AI:=[
 aM 59 11,
 aN 6 59]
abbrev zz45_r12:List AI:=[
 aM 60 0,
 aI 61 (.nilck (.t 60)),
 aI 62 (.faddr 0 (.t 61)),
 aI 63 (.load false 1 (.t 62) .foreign),
 aI 64 (.faddr 0 (.t 8)),
 aI 65 (.load false 1 (.t 64) (.site 8)),
 aI 66 (.bin .mul (.c (.int .i64 2)) (.t 65)),
 aI 67 (.bin .add (.t 66) (.c (.int .i64 1))),
 aI 68 (.call (.m 63 [(170,f_zz31)]) [(.t 67)] 2),
 aN 12 68]
abbrev zz45_r13:List AI:=[
 aM 69 12,
 aI 70 (.bin .neq (.t 69) (.c (.int .i64 0)))]
abbrev zz45_r14:List AI:=[
 aM 71 12,
 aN 6 71]
abbrev zz45_r15:List AI:=[
 aI 72 (.bin .add (.t 16) (.c (.int .i64 1))),
 aM 16 72]
abbrev zz45_l0:ACode:=.seq (.reg false zz45_r2) (.seq (.cond (.t 17) (.skip) (.exit 0)) (.seq (.block 1 (.seq (.reg false zz45_r3) (.seq (.seq (.reg false zz45_r4) (.cond (.t 21) (.exit 1) (.skip))) (.seq (.reg true zz45_r5) (.seq (.seq (.reg false zz45_r6) (.cond (.t 35) (.seq (.reg false zz45_r7) (.ret)) (.skip))) (.seq (.seq (.reg false zz45_r8) (.cond (.t 44) (.exit 1) (.skip))) (.seq (.seq (.reg true zz45_r9) (.seq (.reg false zz45_r10) (.cond (.t 58) (.seq (.reg false zz45_r11) (.ret)) (.skip)))) (.seq (.reg true zz45_r12) (.seq (.reg false zz45_r13) (.cond (.t 70) (.seq (.reg false zz45_r14) (.ret)) (.skip))))))))))) (.reg false zz45_r15)))
abbrev zz45_r16:List AI:=[
 aM 73 0,
 aI 74 (.nilck (.t 73)),
 aI 75 (.faddr 0 (.t 74)),
 aI 76 (.load false 1 (.t 75) .foreign),
 aI 77 (.faddr 0 (.t 5)),
 aI 78 (.load false 1 (.t 77) (.site 5)),
 aI 79 (.call (.m 76 [(170,f_zz31)]) [(.t 78)] 2),
 aN 6 79]
abbrev zz45_c:ACode:=.seq (.reg false zz45_r0) (.seq (.seq (.reg false zz45_r1) (.block 0 (.loop zz45_l0))) (.seq (.reg true zz45_r16) (.ret)))
def zz45_F:AFunc:=⟨80,[.tmp 6],zz45_c⟩
theorem zz45_cp:zf Try.prog [31,56,68,79] f_zz45=some zz45_F:=by kernel_rfl
-- loop 0: [3, 6, 87, 88, 89]
abbrev zz44_r0:List AI:=[
 aI 3 (.gn (.box 1) [(.t 0)]),
 aI 4 (.gn (.box 1) [(.t 1)]),
 aI 6 (.gn (.alloc [(.int .i64 0)]) [])]
abbrev zdy:ACode:=.reg false zz44_r0
abbrev zz44_r1:List AI:=[
 aI 16 (.load false 1 (.t 4) .any),
 aI 17 (.bin .lss (.t 16) (.c (.int .i64 1))),
 aM 18 17,
 aF 19 18 (.load false 1 (.t 4) .any),
 aF 20 18 (.bin .gtr (.t 19) (.c (.int .i64 1099511627776))),
 aI 21 (.pick (.t 18) (.c (.bool true)) (.t 20))]
abbrev zz44_r2:List AI:=[
 aS (.store 1 (.t 6) (.c (.int .i64 1)) .any)]
abbrev zdz:ACode:=.seq (.reg false zz44_r1) (.cond (.t 21) (.seq (.reg false zz44_r2) (.ret)) (.skip))
abbrev zz44_r3:List AI:=[
 aI 23 (.load false 1 (.t 3) .foreign),
 aI 24 (.nilck (.t 23)),
 aI 25 (.faddr 2 (.t 24)),
 aI 26 (.load false 1 (.t 25) .foreign),
 aI 27 (.load false 1 (.t 4) .foreign),
 aI 28 (.gd (.mlook [.i] (.agg [(.int .i64 0),.nilS]) true) [(.t 26),(.t 27)]),
 aM 22 28,
 aI 29 (.ext (.t 22) 0),
 aI 30 (.ext (.t 22) 1),
 aI 7 (.alloc [(.int .i64 0),.nilS]),
 aS (.store 2 (.t 7) (.t 29) (.site 7)),
 aN 8 30]
abbrev zd0:ACode:=.reg true zz44_r3
abbrev zz44_r4:List AI:=[
 aM 31 8,
 aI 32 (.not (.t 31))]
abbrev zz44_r5:List AI:=[
 aS (.store 1 (.t 6) (.c (.int .i64 0)) .any)]
abbrev zd1:ACode:=.seq (.reg false zz44_r4) (.cond (.t 32) (.seq (.reg false zz44_r5) (.ret)) (.skip))
abbrev zz44_r6:List AI:=[
 aM 34 2]
abbrev zz44_r7:List AI:=[
 aI 36 (.load false 1 (.t 3) .foreign),
 aI 37 (.nilck (.t 36)),
 aI 38 (.faddr 0 (.t 37)),
 aI 39 (.load false 1 (.t 38) .foreign),
 aI 40 (.faddr 0 (.t 7)),
 aI 41 (.load false 1 (.t 40) (.site 7)),
 aI 42 (.call (.c (.fn f_zz71)) [(.t 39),(.t 41),(.c (.int .i64 7))] 2),
 aM 35 42,
 aI 43 (.ext (.t 35) 0),
 aI 44 (.ext (.t 35) 1),
 aN 9 43,
 aN 10 44]
abbrev zz44_r8:List AI:=[
 aM 45 10,
 aI 46 (.bin .neq (.t 45) (.c (.int .i64 0))),
 aM 47 46,
 aF 48 47 (.mv false (.t 9)),
 aF 49 47 (.bin .eql (.t 48) (.c (.str []))),
 aI 50 (.pick (.t 47) (.c (.bool true)) (.t 49))]
abbrev zz44_r9:List AI:=[
 aM 51 10,
 aS (.store 1 (.t 6) (.t 51) .any)]
abbrev zz44_r10:List AI:=[
 aI 52 (.load false 1 (.t 3) .foreign),
 aI 53 (.nilck (.t 52)),
 aI 54 (.faddr 0 (.t 53)),
 aI 55 (.load false 1 (.t 54) .foreign),
 aI 56 (.faddr 0 (.t 7)),
 aI 57 (.load false 1 (.t 56) (.site 7)),
 aM 58 9,
 aI 59 (.slS (.t 58) none (some (.c (.int .i64 6)))),
 aI 60 (.mkslice 1 1 (.int .u8 0) [(0,(.c (.int .u8 2)))]),
 aI 61 (.b2s (.t 60)),
 aI 62 (.bin .add (.t 59) (.t 61)),
 aM 63 9,
 aI 64 (.slS (.t 63) (some (.c (.int .i64 7))) none),
 aI 65 (.bin .add (.t 62) (.t 64)),
 aI 66 (.nilck (.t 55)),
 aM 67 55,
 aI 68 (.call (.m 67 [(170,f_zz39)]) [(.t 57),(.t 65)] 2),
 aN 11 68]
abbrev zz44_r11:List AI:=[
 aM 69 11,
 aI 70 (.bin .neq (.t 69) (.c (.int .i64 0)))]
abbrev zz44_r12:List AI:=[
 aM 71 11,
 aS (.store 1 (.t 6) (.t 71) .any)]
abbrev zz44_r13:List AI:=[
 aI 72 (.load false 1 (.t 3) .any),
 aI 73 (.load false 1 (.t 4) .any),
 aI 74 (.load true 2 (.t 7) .any),
 aI 75 (.call (.c (.fn f_zz45)) [(.t 72),(.t 73),(.t 74)] 0),
 aS (.store 1 (.t 6) (.t 75) .any)]
abbrev zz44_b0:ACode:=.seq (.reg true zz44_r7) (.seq (.seq (.reg false zz44_r8) (.cond (.t 50) (.seq (.reg false zz44_r9) (.ret)) (.skip))) (.seq (.seq (.reg true zz44_r10) (.seq (.reg false zz44_r11) (.cond (.t 70) (.seq (.reg false zz44_r12) (.ret)) (.skip)))) (.seq (.reg false zz44_r13) (.ret))))
abbrev zz44_r14:List AI:=[
 aI 76 (.load false 1 (.t 3) .foreign),
 aI 77 (.nilck (.t 76)),
 aI 78 (.faddr 0 (.t 77)),
 aI 79 (.load false 1 (.t 78) .foreign),
 aI 80 (.faddr 0 (.t 7)),
 aI 81 (.load false 1 (.t 80) (.site 7)),
 aI 82 (.call (.m 79 [(170,f_zz31)]) [(.t 81)] 2),
 aN 12 82]
abbrev zz44_r15:List AI:=[
 aM 83 12,
 aI 84 (.bin .neq (.t 83) (.c (.int .i64 0)))]
abbrev zz44_r16:List AI:=[
 aM 85 12,
 aS (.store 1 (.t 6) (.t 85) .any)]
abbrev zz44_r17:List AI:=[
 aI 86 (.faddr 1 (.t 7)),
 aI 87 (.load false 1 (.t 86) .any),
 aI 88 (.len false (.t 87)),
 aI 89 (.mv false (.c (.int .i64 0)))]
abbrev zz44_r18:List AI:=[
 aI 90 (.bin .lss (.t 89) (.t 88))]
abbrev zz44_r19:List AI:=[
 aI 91 (.iaddr 4 (.t 87) (.t 89)),
 aI 92 (.load true 4 (.t 91) .any),
 aI 14 (.alloc [(.int .i64 0),(.int .i64 0),(.str []),(.bool false)]),
 aS (.store 4 (.t 14) (.t 92) .any)]
abbrev zz44_r20:List AI:=[
 aI 93 (.faddr 3 (.t 14)),
 aI 94 (.load false 1 (.t 93) .any)]
abbrev zz44_r21:List AI:=[
 aI 95 (.load false 1 (.t 3) .foreign),
 aI 96 (.nilck (.t 95)),
 aI 97 (.faddr 0 (.t 96)),
 aI 98 (.load false 1 (.t 97) .foreign),
 aI 99 (.faddr 0 (.t 14)),
 aI 100 (.load false 1 (.t 99) (.site 14)),
 aI 101 (.bin .mul (.c (.int .i64 2)) (.t 100)),
 aI 102 (.bin .add (.t 101) (.c (.int .i64 1))),
 aI 103 (.call (.m 98 [(170,f_zz31)]) [(.t 102)] 2),
 aN 15 103]
abbrev zz44_r22:List AI:=[
 aM 104 15,
 aI 105 (.bin .neq (.t 104) (.c (.int .i64 0)))]
abbrev zz44_r23:List AI:=[
 aM 106 15,
 aS (.store 1 (.t 6) (.t 106) .any)]
abbrev zz44_r24:List AI:=[
 aI 107 (.bin .add (.t 89) (.c (.int .i64 1))),
 aM 89 107]
abbrev zz44_l0:ACode:=.seq (.reg false zz44_r18) (.seq (.cond (.t 90) (.skip) (.exit 0)) (.seq (.block 1 (.seq (.reg false zz44_r19) (.seq (.seq (.reg false zz44_r20) (.cond (.t 94) (.exit 1) (.skip))) (.seq (.reg true zz44_r21) (.seq (.reg false zz44_r22) (.cond (.t 105) (.seq (.reg false zz44_r23) (.ret)) (.skip))))))) (.reg false zz44_r24)))
abbrev zz44_r25:List AI:=[
 aS (.store 1 (.t 6) (.c (.int .i64 0)) .any)]
abbrev zz44_c:ACode:=.seq (.seq (.reg false zz44_r6) (.cond (.t 34) (zz44_b0) (.skip))) (.seq (.seq (.reg true zz44_r14) (.seq (.reg false zz44_r15) (.cond (.t 84) (.seq (.reg false zz44_r16) (.ret)) (.skip)))) (.seq (.seq (.reg false zz44_r17) (.block 0 (.loop zz44_l0))) (.seq (.reg false zz44_r25) (.ret))))
def zz44_F:AFuncD:=⟨108,[.cell 6 false 1],[zdy,zdz,zd0,zd1],33,f_zz26,[(.t 6),(.t 3),(.t 4)],zz44_c⟩
theorem zz44_cp:zg5 Try.prog [3,4,6,42,68,82,103] f_zz44=some zz44_F:=by kernel_rfl
-- loop 0: [6, 20]
abbrev zz34_r0:List AI:=[
 aI 2 (.mv true (.c .nilS)),
 aI 3 (.mv true (.c (.int .i64 0)))]
abbrev zz34_r1:List AI:=[
 aM 9 0,
 aI 10 (.call (.c (.fn f_zz60)) [(.t 9),(.c (.int .i64 0))] 0),
 aM 8 10,
 aI 11 (.ext (.t 8) 0),
 aI 12 (.ext (.t 8) 1),
 aI 4 (.alloc [(.int .i64 0),(.str [])]),
 aS (.store 2 (.t 4) (.t 11) .any),
 aN 5 12]
abbrev zz34_r2:List AI:=[
 aM 13 5,
 aI 14 (.bin .neq (.t 13) (.c (.int .i64 0)))]
abbrev zz34_r3:List AI:=[
 aM 15 5,
 aI 2 (.mv true (.c .nilS)),
 aN 3 15]
abbrev zz34_r4:List AI:=[
 aI 6 (.mv true (.c .nilS))]
abbrev zz34_r5:List AI:=[
 aM 16 0,
 aI 17 (.nilck (.t 16)),
 aI 18 (.faddr 2 (.t 17)),
 aI 19 (.load false 1 (.t 18) .any),
 aI 20 (.gn .rng [(.t 19)])]
abbrev zz34_r6:List AI:=[
 aI 21 (.gn .nxt [(.t 20)]),
 aI 22 (.ext (.t 21) 0)]
abbrev zz34_r7:List AI:=[
 aI 23 (.gd .entry [(.t 20)]),
 aI 24 (.ext (.t 23) 0),
 aN 7 24]
abbrev zz34_r8:List AI:=[
 aN 25 6,
 aM 26 7,
 aI 27 (.mkslice 1 1 (.int .i64 0) [(0,(.t 26))]),
 aI 28 (.appG 1 8 [(.int .i64 0)] (.t 25) (.t 27)),
 aN 6 28]
abbrev zz34_l0:ACode:=.seq (.reg false zz34_r6) (.seq (.cond (.t 22) (.skip) (.exit 0)) (.block 1 (.seq (.reg false zz34_r7) (.reg false zz34_r8))))
abbrev zz34_r9:List AI:=[
 aM 29 6,
 aI 30 (.call (.c (.fn f_zz16)) [(.t 29)] 0)]
abbrev zz34_r10:List AI:=[
 aM 31 6,
 aN 2 31,
 aI 3 (.mv true (.c (.int .i64 0)))]
abbrev zz34_c:ACode:=.seq (.reg false zz34_r0) (.seq (.seq (.reg false zz34_r1) (.seq (.reg false zz34_r2) (.cond (.t 14) (.seq (.reg false zz34_r3) (.ret)) (.skip)))) (.seq (.reg false zz34_r4) (.seq (.seq (.reg false zz34_r5) (.block 0 (.loop zz34_l0))) (.seq (.reg false zz34_r9) (.seq (.reg false zz34_r10) (.ret))))))
def zz34_F:AFunc:=⟨32,[.tmp 2,.tmp 3],zz34_c⟩
theorem zz34_cp:zf Try.prog [20,28] f_zz34=some zz34_F:=by kernel_rfl
-- loop 0: [0, 5, 7, 35, 36, 37]
abbrev zz55_r0:List AI:=[
 aI 4 (.mv true (.c (.int .i64 0)))]
abbrev zz55_r1:List AI:=[
 aM 16 0,
 aI 17 (.nilck (.t 16)),
 aI 18 (.faddr 0 (.t 17)),
 aI 19 (.load false 1 (.t 18) .any),
 aM 20 1,
 aI 21 (.call (.c (.fn f_zz71)) [(.t 19),(.t 20),(.c (.int .i64 7))] 0),
 aM 15 21,
 aI 22 (.ext (.t 15) 0),
 aI 23 (.ext (.t 15) 1),
 aN 5 22,
 aN 6 23]
abbrev zz55_r2:List AI:=[
 aM 24 6,
 aI 25 (.bin .neq (.t 24) (.c (.int .i64 0))),
 aM 26 25,
 aF 27 26 (.mv false (.t 5)),
 aF 28 26 (.bin .eql (.t 27) (.c (.str []))),
 aI 29 (.pick (.t 26) (.c (.bool true)) (.t 28))]
abbrev zz55_r3:List AI:=[
 aM 30 6,
 aN 4 30]
abbrev zz55_r4:List AI:=[
 aM 31 1,
 aI 32 (.build [(.int .i64 0),.nilS] [(0,1,(.t 31))]),
 aI 7 (.alloc [(.int .i64 0),.nilS]),
 aS (.store 2 (.t 7) (.t 32) .any)]
abbrev zz55_r5:List AI:=[
 aM 33 5,
 aI 34 (.slS (.t 33) (some (.c (.int .i64 7))) none),
 aI 35 (.s2b (.t 34)),
 aI 36 (.len false (.t 35)),
 aI 37 (.mv false (.c (.int .i64 0)))]
abbrev zz55_r6:List AI:=[
 aI 38 (.bin .lss (.t 37) (.t 36))]
abbrev zz55_r7:List AI:=[
 aI 39 (.iaddr 1 (.t 35) (.t 37)),
 aI 40 (.load false 1 (.t 39) .any),
 aN 9 40]
abbrev zz55_r8:List AI:=[
 aM 41 9,
 aI 42 (.bin .and (.t 41) (.c (.int .u8 127))),
 aI 43 (.conv .i64 (.t 42)),
 aM 44 9,
 aI 45 (.bin .gtr (.t 44) (.c (.int .u8 127))),
 aI 46 (.build [(.int .i64 0),(.int .i64 0),(.str []),(.bool false)] [(0,1,(.t 43)),(3,1,(.t 45))]),
 aI 10 (.alloc [(.int .i64 0),(.int .i64 0),(.str []),(.bool false)]),
 aS (.store 4 (.t 10) (.t 46) .any)]
abbrev zz55_r9:List AI:=[
 aI 47 (.faddr 0 (.t 10)),
 aI 48 (.load false 1 (.t 47) (.site 10)),
 aM 49 0,
 aI 50 (.nilck (.t 49)),
 aI 51 (.faddr 1 (.t 50)),
 aI 52 (.load false 1 (.t 51) .foreign),
 aI 53 (.bin .geq (.t 48) (.t 52))]
abbrev zz55_r10:List AI:=[
 aI 4 (.mv true (.c (.int .i64 14)))]
abbrev zz55_r11:List AI:=[
 aM 55 0,
 aI 56 (.faddr 0 (.t 10)),
 aI 57 (.load false 1 (.t 56) .any),
 aI 58 (.call (.c (.fn f_zz60)) [(.t 55),(.t 57)] 0),
 aM 54 58,
 aI 59 (.ext (.t 54) 0),
 aI 60 (.ext (.t 54) 1),
 aI 11 (.alloc [(.int .i64 0),(.str [])]),
 aS (.store 2 (.t 11) (.t 59) .any),
 aN 12 60]
abbrev zz55_r12:List AI:=[
 aM 61 12,
 aI 62 (.bin .neq (.t 61) (.c (.int .i64 0)))]
abbrev zz55_r13:List AI:=[
 aM 63 12,
 aN 4 63]
abbrev zz55_r14:List AI:=[
 aI 64 (.faddr 0 (.t 11)),
 aI 65 (.load false 1 (.t 64) .any),
 aI 66 (.faddr 1 (.t 10)),
 aS (.store 1 (.t 66) (.t 65) .any)]
abbrev zz55_r15:List AI:=[
 aI 67 (.faddr 3 (.t 10)),
 aI 68 (.load false 1 (.t 67) .any),
 aI 69 (.not (.t 68))]
abbrev zz55_r16:List AI:=[
 aM 71 0,
 aI 72 (.nilck (.t 71)),
 aI 73 (.faddr 0 (.t 72)),
 aI 74 (.load false 1 (.t 73) .foreign),
 aI 75 (.faddr 0 (.t 10)),
 aI 76 (.load false 1 (.t 75) (.site 10)),
 aI 77 (.bin .mul (.c (.int .i64 2)) (.t 76)),
 aI 78 (.bin .add (.t 77) (.c (.int .i64 1))),
 aI 79 (.call (.c (.fn f_zz71)) [(.t 74),(.t 78),(.c (.int .i64 12))] 2),
 aM 70 79,
 aI 80 (.ext (.t 70) 0),
 aI 81 (.ext (.t 70) 1),
 aN 13 80,
 aN 14 81]
abbrev zz55_r17:List AI:=[
 aM 82 14,
 aI 83 (.bin .neq (.t 82) (.c (.int .i64 0)))]
abbrev zz55_r18:List AI:=[
 aM 84 14,
 aN 4 84]
abbrev zz55_r19:List AI:=[
 aM 85 13,
 aI 86 (.bin .neq (.t 85) (.c (.str [])))]
abbrev zz55_r20:List AI:=[
 aM 87 13,
 aI 88 (.slS (.t 87) (some (.c (.int .i64 6))) none),
 aM 91 13,
 aI 92 (.slS (.t 91) (some (.c (.int .i64 12))) none),
 aI 89 (.call (.c (.fn f_zz68)) [(.t 88)] 2),
 aI 90 (.bin .sub (.t 89) (.c (.int .i64 1))),
 aI 93 (.faddr 1 (.t 10)),
 aS (.store 1 (.t 93) (.t 90) (.site 10)),
 aI 94 (.faddr 2 (.t 10)),
 aS (.store 1 (.t 94) (.t 92) (.site 10))]
abbrev zz55_b0:ACode:=.seq (.reg true zz55_r16) (.seq (.seq (.reg false zz55_r17) (.cond (.t 83) (.seq (.reg false zz55_r18) (.ret)) (.skip))) (.seq (.reg false zz55_r19) (.cond (.t 86) (.reg true zz55_r20) (.skip))))
abbrev zz55_r21:List AI:=[
 aI 95 (.faddr 1 (.t 7)),
 aI 96 (.load false 1 (.t 95) .any),
 aI 97 (.load true 4 (.t 10) .any),
 aI 98 (.mkslice 4 1 (.agg [(.int .i64 0),(.int .i64 0),(.str []),(.bool false)]) [(0,(.t 97))]),
 aI 99 (.appG 4 40 [(.int .i64 0),(.int .i64 0),(.str []),(.bool false)] (.t 96) (.t 98)),
 aI 100 (.faddr 1 (.t 7)),
 aS (.store 1 (.t 100) (.t 99) .any)]
abbrev zz55_r22:List AI:=[
 aI 101 (.bin .add (.t 37) (.c (.int .i64 1))),
 aM 37 101]
abbrev zz55_l0:ACode:=.seq (.reg false zz55_r6) (.seq (.cond (.t 38) (.skip) (.exit 0)) (.seq (.block 1 (.seq (.reg false zz55_r7) (.seq (.reg false zz55_r8) (.seq (.seq (.reg true zz55_r9) (.cond (.t 53) (.seq (.reg false zz55_r10) (.ret)) (.skip))) (.seq (.reg false zz55_r11) (.seq (.seq (.reg false zz55_r12) (.cond (.t 62) (.seq (.reg false zz55_r13) (.ret)) (.skip))) (.seq (.reg false zz55_r14) (.seq (.seq (.reg false zz55_r15) (.cond (.t 69) (zz55_b0) (.skip))) (.reg false zz55_r21))))))))) (.reg false zz55_r22)))
abbrev zz55_r23:List AI:=[
 aM 102 5,
 aI 103 (.idxS (.t 102) (.c (.int .i64 6))),
 aI 104 (.bin .eql (.t 103) (.c (.int .u8 2)))]
abbrev zz55_r24:List AI:=[
 aM 105 0,
 aM 106 5,
 aI 108 (.load true 2 (.t 7) (.site 7)),
 aI 107 (.call (.c (.fn f_zz68)) [(.t 106)] 2),
 aI 109 (.call (.c (.fn f_zz45)) [(.t 105),(.t 107),(.t 108)] 2),
 aN 4 109]
abbrev zz55_r25:List AI:=[
 aM 110 0,
 aI 111 (.nilck (.t 110)),
 aI 112 (.faddr 2 (.t 111)),
 aI 113 (.load false 1 (.t 112) .foreign),
 aM 114 5,
 aI 116 (.load true 2 (.t 7) (.site 7)),
 aI 115 (.call (.c (.fn f_zz68)) [(.t 114)] 1),
 aS (.gd (.mset [.i]) [(.t 113),(.t 115),(.t 116)])]
abbrev zz55_r26:List AI:=[
 aI 4 (.mv true (.c (.int .i64 0)))]
abbrev zz55_c:ACode:=.seq (.reg false zz55_r0) (.seq (.reg false zz55_r1) (.seq (.seq (.reg false zz55_r2) (.cond (.t 29) (.seq (.reg false zz55_r3) (.ret)) (.skip))) (.seq (.reg false zz55_r4) (.seq (.seq (.reg false zz55_r5) (.block 0 (.loop zz55_l0))) (.seq (.seq (.reg false zz55_r23) (.cond (.t 104) (.seq (.reg true zz55_r24) (.ret)) (.skip))) (.seq (.reg true zz55_r25) (.seq (.reg false zz55_r26) (.ret))))))))
def zz55_F:AFunc:=⟨117,[.tmp 4],zz55_c⟩
theorem zz55_cp:zf Try.prog [79,99,109] f_zz55=some zz55_F:=by kernel_rfl
-- loop 0: [2, 8, 10, 42]
-- loop 1: [8, 10, 55, 56]
abbrev zz70_r0:List AI:=[
 aI 6 (.mv true (.c .nilP)),
 aI 7 (.mv true (.c (.int .i64 0)))]
abbrev zz70_r1:List AI:=[
 aM 19 2,
 aI 20 (.bin .lss (.t 19) (.c (.int .i64 1))),
 aM 21 20,
 aF 22 21 (.mv false (.t 2)),
 aF 23 21 (.bin .gtr (.t 22) (.c (.int .i64 16))),
 aI 24 (.pick (.t 21) (.c (.bool true)) (.t 23))]
abbrev zz70_r2:List AI:=[
 aI 6 (.mv true (.c .nilP)),
 aI 7 (.mv true (.c (.int .i64 1)))]
abbrev zz70_r3:List AI:=[
 aM 26 0,
 aM 27 1,
 aM 28 2,
 aI 29 (.bin .mul (.c (.int .i64 2)) (.t 28)),
 aI 30 (.bin .add (.t 29) (.c (.int .i64 4))),
 aI 31 (.call (.c (.fn f_zz56)) [(.t 26),(.t 27),(.t 30)] 0),
 aM 25 31,
 aI 32 (.ext (.t 25) 0),
 aI 33 (.ext (.t 25) 1),
 aN 8 32,
 aN 9 33]
abbrev zz70_r4:List AI:=[
 aM 34 9,
 aI 35 (.bin .neq (.t 34) (.c (.int .i64 0)))]
abbrev zz70_r5:List AI:=[
 aM 36 9,
 aI 6 (.mv true (.c .nilP)),
 aN 7 36]
abbrev zz70_r6:List AI:=[
 aM 37 8,
 aM 38 2,
 aI 39 (.gn .mkM []),
 aI 40 (.build [.nilI,(.int .i64 0),.nilM] [(0,1,(.t 37)),(1,1,(.t 38)),(2,1,(.t 39))]),
 aI 41 (.gn (.box 3) [(.t 40)]),
 aN 10 41]
abbrev zz70_r7:List AI:=[
 aI 42 (.mv false (.c (.int .i64 0)))]
abbrev zz70_r8:List AI:=[
 aI 43 (.bin .lss (.t 42) (.c (.int .i64 4)))]
abbrev zz70_r9:List AI:=[
 aM 44 42,
 aN 11 44]
abbrev zz70_r10:List AI:=[
 aM 45 10,
 aM 46 2,
 aI 47 (.bin .mul (.c (.int .i64 2)) (.t 46)),
 aM 48 11,
 aI 49 (.bin .add (.t 47) (.t 48)),
 aI 50 (.call (.c (.fn f_zz55)) [(.t 45),(.t 49)] 0),
 aN 12 50]
abbrev zz70_r11:List AI:=[
 aM 51 12,
 aI 52 (.bin .neq (.t 51) (.c (.int .i64 0)))]
abbrev zz70_r12:List AI:=[
 aM 53 12,
 aI 6 (.mv true (.c .nilP)),
 aN 7 53]
abbrev zz70_r13:List AI:=[
 aI 54 (.bin .add (.t 42) (.c (.int .i64 1))),
 aM 42 54]
abbrev zz70_l0:ACode:=.seq (.reg false zz70_r8) (.seq (.cond (.t 43) (.skip) (.exit 0)) (.seq (.block 1 (.seq (.reg false zz70_r9) (.seq (.reg false zz70_r10) (.seq (.reg false zz70_r11) (.cond (.t 52) (.seq (.reg false zz70_r12) (.ret)) (.skip)))))) (.reg false zz70_r13)))
abbrev zz70_r14:List AI:=[
 aM 55 2,
 aI 56 (.mv false (.c (.int .i64 0)))]
abbrev zz70_r15:List AI:=[
 aI 57 (.bin .lss (.t 56) (.t 55))]
abbrev zz70_r16:List AI:=[
 aM 58 56,
 aN 13 58]
abbrev zz70_r17:List AI:=[
 aM 60 8,
 aM 61 13,
 aI 62 (.bin .mul (.c (.int .i64 2)) (.t 61)),
 aI 63 (.bin .add (.t 62) (.c (.int .i64 1))),
 aI 64 (.call (.c (.fn f_zz71)) [(.t 60),(.t 63),(.c (.int .i64 12))] 0),
 aM 59 64,
 aI 65 (.ext (.t 59) 0),
 aI 66 (.ext (.t 59) 1),
 aN 14 65,
 aN 15 66]
abbrev zz70_r18:List AI:=[
 aM 67 15,
 aI 68 (.bin .neq (.t 67) (.c (.int .i64 0)))]
abbrev zz70_r19:List AI:=[
 aM 69 15,
 aI 6 (.mv true (.c .nilP)),
 aN 7 69]
abbrev zz70_r20:List AI:=[
 aM 70 14,
 aI 71 (.bin .eql (.t 70) (.c (.str [])))]
abbrev zz70_r21:List AI:=[
 aM 73 10,
 aI 74 (.nilck (.t 73)),
 aI 75 (.faddr 2 (.t 74)),
 aI 76 (.load false 1 (.t 75) .foreign),
 aM 77 14,
 aI 16 (.alloc [(.int .i64 0),.nilS]),
 aI 78 (.call (.c (.fn f_zz68)) [(.t 77)] 1),
 aI 79 (.gd (.mlook [.i] (.agg [(.int .i64 0),.nilS]) true) [(.t 76),(.t 78)]),
 aM 72 79,
 aI 80 (.ext (.t 72) 0),
 aI 81 (.ext (.t 72) 1),
 aS (.store 2 (.t 16) (.t 80) (.site 16)),
 aN 17 81]
abbrev zz70_r22:List AI:=[
 aM 82 17,
 aI 83 (.not (.t 82))]
abbrev zz70_r23:List AI:=[
 aM 84 8,
 aM 85 13,
 aI 86 (.bin .mul (.c (.int .i64 2)) (.t 85)),
 aI 87 (.bin .add (.t 86) (.c (.int .i64 1))),
 aI 88 (.call (.m 84 [(170,f_zz31)]) [(.t 87)] 0),
 aN 18 88]
abbrev zz70_r24:List AI:=[
 aM 89 18,
 aI 90 (.bin .neq (.t 89) (.c (.int .i64 0)))]
abbrev zz70_r25:List AI:=[
 aM 91 18,
 aI 6 (.mv true (.c .nilP)),
 aN 7 91]
abbrev zz70_b0:ACode:=.seq (.reg false zz70_r23) (.seq (.reg false zz70_r24) (.cond (.t 90) (.seq (.reg false zz70_r25) (.ret)) (.skip)))
abbrev zz70_r26:List AI:=[
 aI 92 (.bin .add (.t 56) (.c (.int .i64 1))),
 aM 56 92]
abbrev zz70_l1:ACode:=.seq (.reg false zz70_r15) (.seq (.cond (.t 57) (.skip) (.exit 2)) (.seq (.block 3 (.seq (.reg false zz70_r16) (.seq (.reg false zz70_r17) (.seq (.seq (.reg false zz70_r18) (.cond (.t 68) (.seq (.reg false zz70_r19) (.ret)) (.skip))) (.seq (.seq (.reg false zz70_r20) (.cond (.t 71) (.exit 3) (.skip))) (.seq (.reg true zz70_r21) (.seq (.reg false zz70_r22) (.cond (.t 83) (zz70_b0) (.skip))))))))) (.reg false zz70_r26)))
abbrev zz70_r27:List AI:=[
 aM 93 10,
 aN 6 93,
 aI 7 (.mv true (.c (.int .i64 0)))]
abbrev zz70_c:ACode:=.seq (.reg false zz70_r0) (.seq (.seq (.reg false zz70_r1) (.cond (.t 24) (.seq (.reg false zz70_r2) (.ret)) (.skip))) (.seq (.reg false zz70_r3) (.seq (.seq (.reg false zz70_r4) (.cond (.t 35) (.seq (.reg false zz70_r5) (.ret)) (.skip))) (.seq (.reg false zz70_r6) (.seq (.seq (.reg false zz70_r7) (.block 0 (.loop zz70_l0))) (.seq (.seq (.reg false zz70_r14) (.block 2 (.loop zz70_l1))) (.seq (.reg false zz70_r27) (.ret))))))))
def zz70_F:AFunc:=⟨94,[.tmp 6,.tmp 7],zz70_c⟩
theorem zz70_cp:zf Try.prog [39,41] f_zz70=some zz70_F:=by kernel_rfl
abbrev zz51_r0:List AI:=[
 aI 6 (.mv true (.c (.int .i64 0)))]
abbrev zz51_r1:List AI:=[
 aM 7 2,
 aI 8 (.bin .lss (.t 7) (.c (.int .i64 1))),
 aM 9 8,
 aF 10 9 (.mv false (.t 2)),
 aF 11 9 (.bin .gtr (.t 10) (.c (.int .i64 100))),
 aI 12 (.pick (.t 9) (.c (.bool true)) (.t 11))]
abbrev zz51_r2:List AI:=[
 aI 6 (.mv true (.c (.int .i64 1)))]
abbrev zz51_r3:List AI:=[
 aM 13 0,
 aM 14 1,
 aM 15 2,
 aI 16 (.call (.c (.fn f_zz57)) [(.t 13),(.t 14),(.t 15)] 0),
 aN 6 16]
abbrev zz51_c:ACode:=.seq (.reg false zz51_r0) (.seq (.seq (.reg false zz51_r1) (.cond (.t 12) (.seq (.reg false zz51_r2) (.ret)) (.skip))) (.seq (.reg false zz51_r3) (.ret)))
def zz51_F:AFunc:=⟨17,[.tmp 6],zz51_c⟩
theorem zz51_cp:zf Try.prog [] f_zz51=some zz51_F:=by kernel_rfl
abbrev zz59_r0:List AI:=[
 aI 6 (.mv true (.c .nilP)),
 aI 7 (.mv true (.c (.int .i64 0)))]
abbrev zz59_r1:List AI:=[
 aM 10 2,
 aI 11 (.bin .lss (.t 10) (.c (.int .i64 1))),
 aM 12 11,
 aF 13 12 (.mv false (.t 2)),
 aF 14 12 (.bin .gtr (.t 13) (.c (.int .i64 100))),
 aI 15 (.pick (.t 12) (.c (.bool true)) (.t 14))]
abbrev zz59_r2:List AI:=[
 aI 6 (.mv true (.c .nilP)),
 aI 7 (.mv true (.c (.int .i64 1)))]
abbrev zz59_r3:List AI:=[
 aM 17 0,
 aM 18 1,
 aM 19 2,
 aI 20 (.call (.c (.fn f_zz56)) [(.t 17),(.t 18),(.t 19)] 0),
 aM 16 20,
 aI 21 (.ext (.t 16) 0),
 aI 22 (.ext (.t 16) 1),
 aN 8 21,
 aN 9 22]
abbrev zz59_r4:List AI:=[
 aM 23 9,
 aI 24 (.bin .neq (.t 23) (.c (.int .i64 0)))]
abbrev zz59_r5:List AI:=[
 aM 25 9,
 aI 6 (.mv true (.c .nilP)),
 aN 7 25]
abbrev zz59_r6:List AI:=[
 aM 26 8,
 aM 27 2,
 aI 28 (.build [.nilI,(.int .i64 0)] [(0,1,(.t 26)),(1,1,(.t 27))]),
 aI 29 (.gn (.box 2) [(.t 28)]),
 aN 6 29,
 aI 7 (.mv true (.c (.int .i64 0)))]
abbrev zz59_c:ACode:=.seq (.reg false zz59_r0) (.seq (.seq (.reg false zz59_r1) (.cond (.t 15) (.seq (.reg false zz59_r2) (.ret)) (.skip))) (.seq (.reg false zz59_r3) (.seq (.seq (.reg false zz59_r4) (.cond (.t 24) (.seq (.reg false zz59_r5) (.ret)) (.skip))) (.seq (.reg false zz59_r6) (.ret)))))
def zz59_F:AFunc:=⟨30,[.tmp 6,.tmp 7],zz59_c⟩
theorem zz59_cp:zf Try.prog [29] f_zz59=some zz59_F:=by kernel_rfl
-- loop 0: [0, 1, 12, 13]
abbrev zz53_r0:List AI:=[
 aI 4 (.mv true (.c (.int .i64 0))),
 aI 5 (.mv true (.c (.int .i64 0)))]
abbrev zz53_r1:List AI:=[
 aM 9 0,
 aI 10 (.nilck (.t 9)),
 aI 11 (.faddr 1 (.t 10)),
 aI 12 (.load false 1 (.t 11) .any),
 aI 13 (.mv false (.c (.int .i64 0)))]
abbrev zz53_r2:List AI:=[
 aI 14 (.bin .lss (.t 13) (.t 12))]
abbrev zz53_r3:List AI:=[
 aM 15 13,
 aN 6 15]
abbrev zz53_r4:List AI:=[
 aM 17 0,
 aI 18 (.nilck (.t 17)),
 aI 19 (.faddr 0 (.t 18)),
 aI 20 (.load false 1 (.t 19) .any),
 aM 21 6,
 aI 22 (.call (.c (.fn f_zz71)) [(.t 20),(.t 21),(.c (.int .i64 6))] 0),
 aM 16 22,
 aI 23 (.ext (.t 16) 0),
 aI 24 (.ext (.t 16) 1),
 aN 7 23,
 aN 8 24]
abbrev zz53_r5:List AI:=[
 aM 25 8,
 aI 26 (.bin .neq (.t 25) (.c (.int .i64 0)))]
abbrev zz53_r6:List AI:=[
 aM 27 8,
 aI 4 (.mv true (.c (.int .i64 (-1)))),
 aN 5 27]
abbrev zz53_r7:List AI:=[
 aM 28 7,
 aI 29 (.bin .eql (.t 28) (.c (.str []))),
 aM 30 29,
 aT 31 30 (.mv false (.t 1)),
 aT 32 30 (.bin .eql (.t 31) (.c (.int .i64 0))),
 aI 33 (.pick (.t 30) (.t 32) (.c (.bool false))),
 aM 34 33,
 aF 35 34 (.mv false (.t 7)),
 aF 36 34 (.bin .neq (.t 35) (.c (.str []))),
 aF 37 34 (.mv false (.t 36)),
 aT 38 37 (.mv false (.t 7)),
 aT 39 37 (.call (.c (.fn f_zz68)) [(.t 38)] 0),
 aT 40 37 (.mv false (.t 1)),
 aT 41 37 (.bin .eql (.t 39) (.t 40)),
 aF 42 34 (.pick (.t 37) (.t 41) (.c (.bool false))),
 aI 43 (.pick (.t 34) (.c (.bool true)) (.t 42))]
abbrev zz53_r8:List AI:=[
 aM 44 6,
 aN 4 44,
 aI 5 (.mv true (.c (.int .i64 0)))]
abbrev zz53_r9:List AI:=[
 aI 45 (.bin .add (.t 13) (.c (.int .i64 1))),
 aM 13 45]
abbrev zz53_l0:ACode:=.seq (.reg false zz53_r2) (.seq (.cond (.t 14) (.skip) (.exit 0)) (.seq (.block 1 (.seq (.reg false zz53_r3) (.seq (.reg false zz53_r4) (.seq (.seq (.reg false zz53_r5) (.cond (.t 26) (.seq (.reg false zz53_r6) (.ret)) (.skip))) (.seq (.reg false zz53_r7) (.cond (.t 43) (.seq (.reg false zz53_r8) (.ret)) (.skip))))))) (.reg false zz53_r9)))
abbrev zz53_r10:List AI:=[
 aI 4 (.mv true (.c (.int .i64 (-1)))),
 aI 5 (.mv true (.c (.int .i64 0)))]
abbrev zz53_c:ACode:=.seq (.reg false zz53_r0) (.seq (.seq (.reg false zz53_r1) (.block 0 (.loop zz53_l0))) (.seq (.reg false zz53_r10) (.ret)))
def zz53_F:AFunc:=⟨46,[.tmp 4,.tmp 5],zz53_c⟩
theorem zz53_cp:zf Try.prog [] f_zz53=some zz53_F:=by kernel_rfl
abbrev zz43_r0:List AI:=[
 aI 4 (.mv true (.c (.int .i64 0)))]
abbrev zz43_r1:List AI:=[
 aM 7 1,
 aI 8 (.bin .lss (.t 7) (.c (.int .i64 1))),
 aM 9 8,
 aF 10 9 (.mv false (.t 1)),
 aF 11 9 (.bin .gtr (.t 10) (.c (.int .i64 1099511627776))),
 aI 12 (.pick (.t 9) (.c (.bool true)) (.t 11))]
abbrev zz43_r2:List AI:=[
 aI 4 (.mv true (.c (.int .i64 1)))]
abbrev zz43_r3:List AI:=[
 aM 14 0,
 aM 15 1,
 aI 16 (.call (.c (.fn f_zz53)) [(.t 14),(.t 15)] 0),
 aM 13 16,
 aI 17 (.ext (.t 13) 0),
 aI 18 (.ext (.t 13) 1),
 aN 5 17,
 aN 6 18]
abbrev zz43_r4:List AI:=[
 aM 19 6,
 aI 20 (.bin .neq (.t 19) (.c (.int .i64 0))),
 aM 21 20,
 aF 22 21 (.mv false (.t 5)),
 aF 23 21 (.bin .geq (.t 22) (.c (.int .i64 0))),
 aI 24 (.pick (.t 21) (.c (.bool true)) (.t 23))]
abbrev zz43_r5:List AI:=[
 aM 25 6,
 aN 4 25]
abbrev zz43_r6:List AI:=[
 aM 27 0,
 aI 28 (.call (.c (.fn f_zz53)) [(.t 27),(.c (.int .i64 0))] 0),
 aM 26 28,
 aI 29 (.ext (.t 26) 0),
 aI 30 (.ext (.t 26) 1),
 aN 5 29,
 aN 6 30]
abbrev zz43_r7:List AI:=[
 aM 31 6,
 aI 32 (.bin .neq (.t 31) (.c (.int .i64 0)))]
abbrev zz43_r8:List AI:=[
 aM 33 6,
 aN 4 33]
abbrev zz43_r9:List AI:=[
 aM 34 5,
 aI 35 (.bin .lss (.t 34) (.c (.int .i64 0)))]
abbrev zz43_r10:List AI:=[
 aI 4 (.mv true (.c (.int .i64 13)))]
abbrev zz43_r11:List AI:=[
 aM 36 0,
 aI 37 (.nilck (.t 36)),
 aI 38 (.faddr 0 (.t 37)),
 aI 39 (.load false 1 (.t 38) .foreign),
 aM 40 5,
 aM 41 1,
 aI 43 (.nilck (.t 39)),
 aM 44 39,
 aI 42 (.call (.c (.fn f_zz66)) [(.t 41)] 1),
 aI 45 (.call (.m 44 [(170,f_zz39)]) [(.t 40),(.t 42)] 2),
 aN 4 45]
abbrev zz43_c:ACode:=.seq (.reg false zz43_r0) (.seq (.seq (.reg false zz43_r1) (.cond (.t 12) (.seq (.reg false zz43_r2) (.ret)) (.skip))) (.seq (.reg false zz43_r3) (.seq (.seq (.reg false zz43_r4) (.cond (.t 24) (.seq (.reg false zz43_r5) (.ret)) (.skip))) (.seq (.seq (.reg false zz43_r6) (.seq (.reg false zz43_r7) (.cond (.t 32) (.seq (.reg false zz43_r8) (.ret)) (.skip)))) (.seq (.seq (.reg false zz43_r9) (.cond (.t 35) (.seq (.reg false zz43_r10) (.ret)) (.skip))) (.seq (.reg true zz43_r11) (.ret)))))))
def zz43_F:AFunc:=⟨46,[.tmp 4],zz43_c⟩
theorem zz43_cp:zf Try.prog [45] f_zz43=some zz43_F:=by kernel_rfl
abbrev zz33_r0:List AI:=[
 aI 4 (.mv true (.c (.bool false))),
 aI 5 (.mv true (.c (.int .i64 0)))]
abbrev zz33_r1:List AI:=[
 aM 8 1,
 aI 9 (.bin .lss (.t 8) (.c (.int .i64 1))),
 aM 10 9,
 aF 11 10 (.mv false (.t 1)),
 aF 12 10 (.bin .gtr (.t 11) (.c (.int .i64 1099511627776))),
 aI 13 (.pick (.t 10) (.c (.bool true)) (.t 12))]
abbrev zz33_r2:List AI:=[
 aI 4 (.mv true (.c (.bool false))),
 aI 5 (.mv true (.c (.int .i64 1)))]
abbrev zz33_r3:List AI:=[
 aM 15 0,
 aM 16 1,
 aI 17 (.call (.c (.fn f_zz53)) [(.t 15),(.t 16)] 0),
 aM 14 17,
 aI 18 (.ext (.t 14) 0),
 aI 19 (.ext (.t 14) 1),
 aN 6 18,
 aN 7 19]
abbrev zz33_r4:List AI:=[
 aM 20 6,
 aI 21 (.bin .geq (.t 20) (.c (.int .i64 0))),
 aM 22 7,
 aN 4 21,
 aN 5 22]
abbrev zz33_c:ACode:=.seq (.reg false zz33_r0) (.seq (.seq (.reg false zz33_r1) (.cond (.t 13) (.seq (.reg false zz33_r2) (.ret)) (.skip))) (.seq (.reg false zz33_r3) (.seq (.reg false zz33_r4) (.ret))))
def zz33_F:AFunc:=⟨23,[.tmp 4,.tmp 5],zz33_c⟩
theorem zz33_cp:zf Try.prog [] f_zz33=some zz33_F:=by kernel_rfl
abbrev zz42_r0:List AI:=[
 aI 4 (.mv true (.c (.int .i64 0)))]
abbrev zz42_r1:List AI:=[
 aM 7 1,
 aI 8 (.bin .lss (.t 7) (.c (.int .i64 1))),
 aM 9 8,
 aF 10 9 (.mv false (.t 1)),
 aF 11 9 (.bin .gtr (.t 10) (.c (.int .i64 1099511627776))),
 aI 12 (.pick (.t 9) (.c (.bool true)) (.t 11))]
abbrev zz42_r2:List AI:=[
 aI 4 (.mv true (.c (.int .i64 1)))]
abbrev zz42_r3:List AI:=[
 aM 14 0,
 aM 15 1,
 aI 16 (.call (.c (.fn f_zz53)) [(.t 14),(.t 15)] 0),
 aM 13 16,
 aI 17 (.ext (.t 13) 0),
 aI 18 (.ext (.t 13) 1),
 aN 5 17,
 aN 6 18]
abbrev zz42_r4:List AI:=[
 aM 19 6,
 aI 20 (.bin .neq (.t 19) (.c (.int .i64 0))),
 aM 21 20,
 aF 22 21 (.mv false (.t 5)),
 aF 23 21 (.bin .lss (.t 22) (.c (.int .i64 0))),
 aI 24 (.pick (.t 21) (.c (.bool true)) (.t 23))]
abbrev zz42_r5:List AI:=[
 aM 25 6,
 aN 4 25]
abbrev zz42_r6:List AI:=[
 aM 26 0,
 aI 27 (.nilck (.t 26)),
 aI 28 (.faddr 0 (.t 27)),
 aI 29 (.load false 1 (.t 28) .any),
 aM 30 5,
 aI 31 (.call (.m 29 [(170,f_zz31)]) [(.t 30)] 0),
 aN 4 31]
abbrev zz42_c:ACode:=.seq (.reg false zz42_r0) (.seq (.seq (.reg false zz42_r1) (.cond (.t 12) (.seq (.reg false zz42_r2) (.ret)) (.skip))) (.seq (.reg false zz42_r3) (.seq (.seq (.reg false zz42_r4) (.cond (.t 24) (.seq (.reg false zz42_r5) (.ret)) (.skip))) (.seq (.reg false zz42_r6) (.ret)))))
def zz42_F:AFunc:=⟨32,[.tmp 4],zz42_c⟩
theorem zz42_cp:zf Try.prog [] f_zz42=some zz42_F:=by kernel_rfl
abbrev zz0_r0:List AI:=[
 aI 4 (.mv true (.c (.bool false)))]
abbrev zz0_r1:List AI:=[
 aM 5 0,
 aM 6 1,
 aI 7 (.call (.c (.fn f_zz2)) [(.t 5),(.t 6)] 0),
 aI 8 (.bin .geq (.t 7) (.c (.int .i64 0))),
 aN 4 8]
abbrev zz0_c:ACode:=.seq (.reg false zz0_r0) (.seq (.reg false zz0_r1) (.ret))
def zz0_F:AFunc:=⟨9,[.tmp 4],zz0_c⟩
theorem zz0_cp:zf Try.prog [] f_zz0=some zz0_F:=by kernel_rfl
-- loop 0: [0, 1, 7, 8]
abbrev zz2_r0:List AI:=[
 aI 4 (.mv true (.c (.int .i64 0)))]
abbrev zz2_r1:List AI:=[
 aM 6 0,
 aI 7 (.len false (.t 6)),
 aI 8 (.mv false (.c (.int .i64 0)))]
abbrev zz2_r2:List AI:=[
 aI 9 (.bin .lss (.t 8) (.t 7))]
abbrev zz2_r3:List AI:=[
 aM 10 8,
 aN 5 10]
abbrev zz2_r4:List AI:=[
 aM 11 1,
 aM 12 0,
 aM 13 5,
 aI 14 (.iaddr 1 (.t 12) (.t 13)),
 aI 15 (.load false 1 (.t 14) .any),
 aI 16 (.call (.t 11) [(.t 15)] 0)]
abbrev zz2_r5:List AI:=[
 aM 17 5,
 aN 4 17]
abbrev zz2_r6:List AI:=[
 aI 18 (.bin .add (.t 8) (.c (.int .i64 1))),
 aM 8 18]
abbrev zz2_l0:ACode:=.seq (.reg false zz2_r2) (.seq (.cond (.t 9) (.skip) (.exit 0)) (.seq (.block 1 (.seq (.reg false zz2_r3) (.seq (.reg false zz2_r4) (.cond (.t 16) (.seq (.reg false zz2_r5) (.ret)) (.skip))))) (.reg false zz2_r6)))
abbrev zz2_r7:List AI:=[
 aI 4 (.mv true (.c (.int .i64 (-1))))]
abbrev zz2_c:ACode:=.seq (.reg false zz2_r0) (.seq (.seq (.reg false zz2_r1) (.block 0 (.loop zz2_l0))) (.seq (.reg false zz2_r7) (.ret)))
def zz2_F:AFunc:=⟨19,[.tmp 4],zz2_c⟩
theorem zz2_cp:zf Try.prog [] f_zz2=some zz2_F:=by kernel_rfl
abbrev zz67_r0:List AI:=[
 aI 2 (.mv true (.c (.bool false)))]
abbrev zz67_r1:List AI:=[
 aM 3 0,
 aI 4 (.len false (.t 3)),
 aI 5 (.bin .gtr (.t 4) (.c (.int .i64 0))),
 aN 2 5]
abbrev zz67_c:ACode:=.seq (.reg false zz67_r0) (.seq (.reg false zz67_r1) (.ret))
def zz67_F:AFunc:=⟨6,[.tmp 2],zz67_c⟩
theorem zz67_cp:zf Try.prog [] f_zz67=some zz67_F:=by kernel_rfl
-- loop 0: [2, 3, 15, 73, 74, 75]
-- loop 1: [0, 1, 2, 3, 52, 53, 54]
-- loop 2: [0, 2, 3, 101, 102, 103]
abbrev zz72_r0:List AI:=[
 aI 8 (.mv true (.c (.bool false))),
 aI 9 (.mv true (.c (.int .i64 0)))]
abbrev zz72_r1:List AI:=[
 aM 23 3,
 aI 24 (.call (.c (.fn f_zz0)) [(.t 23),(.c (.fn f_zz67))] 0),
 aN 10 24]
abbrev zz72_r2:List AI:=[
 aM 25 3,
 aI 26 (.len false (.t 25)),
 aM 27 1,
 aI 28 (.len false (.t 27)),
 aI 29 (.bin .neq (.t 26) (.t 28)),
 aM 30 29,
 aF 31 30 (.mv false (.t 10)),
 aF 32 30 (.not (.t 31)),
 aI 33 (.pick (.t 30) (.c (.bool true)) (.t 32)),
 aM 34 33,
 aF 35 34 (.mv false (.t 2)),
 aF 36 34 (.bin .lss (.t 35) (.c (.int .i64 1))),
 aI 37 (.pick (.t 34) (.c (.bool true)) (.t 36)),
 aM 38 37,
 aF 39 38 (.mv false (.t 2)),
 aF 40 38 (.bin .gtr (.t 39) (.c (.int .i64 1099511627776))),
 aI 41 (.pick (.t 38) (.c (.bool true)) (.t 40))]
abbrev zz72_r3:List AI:=[
 aI 8 (.mv true (.c (.bool false))),
 aI 9 (.mv true (.c (.int .i64 1)))]
abbrev zz72_r4:List AI:=[
 aM 43 0,
 aM 44 2,
 aI 45 (.call (.c (.fn f_zz33)) [(.t 43),(.t 44)] 0),
 aM 42 45,
 aI 46 (.ext (.t 42) 0),
 aI 47 (.ext (.t 42) 1),
 aN 11 46,
 aN 12 47]
abbrev zz72_r5:List AI:=[
 aM 48 12,
 aI 49 (.bin .neq (.t 48) (.c (.int .i64 0)))]
abbrev zz72_r6:List AI:=[
 aM 50 12,
 aI 8 (.mv true (.c (.bool false))),
 aN 9 50]
abbrev zz72_r7:List AI:=[
 aM 51 11]
abbrev zz72_r8:List AI:=[
 aI 8 (.mv true (.c (.bool false))),
 aI 9 (.mv true (.c (.int .i64 9)))]
abbrev zz72_r9:List AI:=[
 aM 52 3,
 aI 53 (.len false (.t 52)),
 aI 54 (.mv false (.c (.int .i64 0)))]
abbrev zz72_r10:List AI:=[
 aI 55 (.bin .lss (.t 54) (.t 53))]
abbrev zz72_r11:List AI:=[
 aM 56 54,
 aI 57 (.iaddr 1 (.t 52) (.t 54)),
 aI 58 (.load false 1 (.t 57) .any),
 aN 13 56,
 aN 14 58]
abbrev zz72_r12:List AI:=[
 aM 59 14,
 aI 60 (.len false (.t 59)),
 aI 61 (.bin .eql (.t 60) (.c (.int .i64 0)))]
abbrev zz72_r13:List AI:=[
 aM 62 1,
 aM 63 13,
 aI 64 (.iaddr 1 (.t 62) (.t 63)),
 aI 65 (.load false 1 (.t 64) .any),
 aM 66 2,
 aM 67 14,
 aI 68 (.call (.c (.fn f_zz35)) [(.t 65),(.t 66),(.t 67)] 0),
 aN 15 68]
abbrev zz72_r14:List AI:=[
 aM 69 15,
 aI 70 (.bin .neq (.t 69) (.c (.int .i64 0)))]
abbrev zz72_r15:List AI:=[
 aM 71 1,
 aM 72 13,
 aI 73 (.sl 1 (.t 71) none (some (.t 72))),
 aI 74 (.len false (.t 73)),
 aI 75 (.mv false (.c (.int .i64 0)))]
abbrev zz72_r16:List AI:=[
 aI 76 (.bin .lss (.t 75) (.t 74))]
abbrev zz72_r17:List AI:=[
 aM 77 75,
 aI 78 (.iaddr 1 (.t 73) (.t 75)),
 aI 79 (.load false 1 (.t 78) .any),
 aN 16 77,
 aN 17 79]
abbrev zz72_r18:List AI:=[
 aM 80 3,
 aM 81 16,
 aI 82 (.iaddr 1 (.t 80) (.t 81)),
 aI 83 (.load false 1 (.t 82) .any),
 aI 84 (.len false (.t 83)),
 aI 85 (.bin .eql (.t 84) (.c (.int .i64 0)))]
abbrev zz72_r19:List AI:=[
 aM 86 17,
 aM 87 2,
 aI 88 (.call (.c (.fn f_zz44)) [(.t 86),(.t 87),(.c (.bool false))] 0),
 aN 18 88]
abbrev zz72_r20:List AI:=[
 aM 89 18,
 aI 90 (.bin .neq (.t 89) (.c (.int .i64 0)))]
abbrev zz72_r21:List AI:=[
 aM 91 18,
 aI 8 (.mv true (.c (.bool false))),
 aN 9 91]
abbrev zz72_r22:List AI:=[
 aI 92 (.bin .add (.t 75) (.c (.int .i64 1))),
 aM 75 92]
abbrev zz72_l0:ACode:=.seq (.reg false zz72_r16) (.seq (.cond (.t 76) (.skip) (.exit 2)) (.seq (.block 3 (.seq (.reg false zz72_r17) (.seq (.seq (.reg false zz72_r18) (.cond (.t 85) (.exit 3) (.skip))) (.seq (.reg false zz72_r19) (.seq (.reg false zz72_r20) (.cond (.t 90) (.seq (.reg false zz72_r21) (.ret)) (.skip))))))) (.reg false zz72_r22)))
abbrev zz72_r23:List AI:=[
 aM 93 15,
 aI 8 (.mv true (.c (.bool false))),
 aN 9 93]
abbrev zz72_b0:ACode:=.seq (.seq (.reg false zz72_r15) (.block 2 (.loop zz72_l0))) (.seq (.reg false zz72_r23) (.ret))
abbrev zz72_r24:List AI:=[
 aI 94 (.bin .add (.t 54) (.c (.int .i64 1))),
 aM 54 94]
abbrev zz72_l1:ACode:=.seq (.reg false zz72_r10) (.seq (.cond (.t 55) (.skip) (.exit 0)) (.seq (.block 1 (.seq (.reg false zz72_r11) (.seq (.seq (.reg false zz72_r12) (.cond (.t 61) (.exit 1) (.skip))) (.seq (.reg false zz72_r13) (.seq (.reg false zz72_r14) (.cond (.t 70) (zz72_b0) (.skip))))))) (.reg false zz72_r24)))
abbrev zz72_r25:List AI:=[
 aM 95 0,
 aM 96 2,
 aI 97 (.call (.c (.fn f_zz43)) [(.t 95),(.t 96)] 0),
 aN 19 97]
abbrev zz72_r26:List AI:=[
 aM 98 19,
 aI 99 (.bin .neq (.t 98) (.c (.int .i64 0)))]
abbrev zz72_r27:List AI:=[
 aM 100 19,
 aI 8 (.mv true (.c (.bool false))),
 aN 9 100]
abbrev zz72_r28:List AI:=[
 aM 101 1,
 aI 102 (.len false (.t 101)),
 aI 103 (.mv false (.c (.int .i64 0)))]
abbrev zz72_r29:List AI:=[
 aI 104 (.bin .lss (.t 103) (.t 102))]
abbrev zz72_r30:List AI:=[
 aM 105 103,
 aI 106 (.iaddr 1 (.t 101) (.t 103)),
 aI 107 (.load false 1 (.t 106) .any),
 aN 20 105,
 aN 21 107]
abbrev zz72_r31:List AI:=[
 aM 108 3,
 aM 109 20,
 aI 110 (.iaddr 1 (.t 108) (.t 109)),
 aI 111 (.load false 1 (.t 110) .any),
 aI 112 (.len false (.t 111)),
 aI 113 (.bin .gtr (.t 112) (.c (.int .i64 0)))]
abbrev zz72_r32:List AI:=[
 aM 114 21,
 aM 115 2,
 aI 116 (.call (.c (.fn f_zz44)) [(.t 114),(.t 115),(.c (.bool true))] 0),
 aN 22 116]
abbrev zz72_r33:List AI:=[
 aM 117 22,
 aI 118 (.bin .neq (.t 117) (.c (.int .i64 0)))]
abbrev zz72_r34:List AI:=[
 aM 119 22,
 aI 8 (.mv true (.c (.bool true))),
 aN 9 119]
abbrev zz72_b1:ACode:=.seq (.reg false zz72_r32) (.seq (.reg false zz72_r33) (.cond (.t 118) (.seq (.reg false zz72_r34) (.ret)) (.skip)))
abbrev zz72_r35:List AI:=[
 aI 120 (.bin .add (.t 103) (.c (.int .i64 1))),
 aM 103 120]
abbrev zz72_l2:ACode:=.seq (.reg false zz72_r29) (.seq (.cond (.t 104) (.skip) (.exit 4)) (.seq (.block 5 (.seq (.reg false zz72_r30) (.seq (.reg false zz72_r31) (.cond (.t 113) (zz72_b1) (.skip))))) (.reg false zz72_r35)))
abbrev zz72_r36:List AI:=[
 aM 121 0,
 aM 122 2,
 aI 123 (.call (.c (.fn f_zz42)) [(.t 121),(.t 122)] 0),
 aI 8 (.mv true (.c (.bool true))),
 aN 9 123]
abbrev zz72_c:ACode:=.seq (.reg false zz72_r0) (.seq (.reg false zz72_r1) (.seq (.seq (.reg false zz72_r2) (.cond (.t 41) (.seq (.reg false zz72_r3) (.ret)) (.skip))) (.seq (.reg false zz72_r4) (.seq (.seq (.reg false zz72_r5) (.cond (.t 49) (.seq (.reg false zz72_r6) (.ret)) (.skip))) (.seq (.seq (.reg false zz72_r7) (.cond (.t 51) (.seq (.reg false zz72_r8) (.ret)) (.skip))) (.seq (.seq (.reg false zz72_r9) (.block 0 (.loop zz72_l1))) (.seq (.seq (.reg false zz72_r25) (.seq (.reg false zz72_r26) (.cond (.t 99) (.seq (.reg false zz72_r27) (.ret)) (.skip)))) (.seq (.seq (.reg false zz72_r28) (.block 4 (.loop zz72_l2))) (.seq (.reg false zz72_r36) (.ret))))))))))
def zz72_F:AFunc:=⟨124,[.tmp 8,.tmp 9],zz72_c⟩
theorem zz72_cp:zf Try.prog [] f_zz72=some zz72_F:=by kernel_rfl
-- loop 0: [0, 6, 18, 19, 20, 32, 33, 34]
-- loop 1: [0, 18, 19, 20]
-- loop 2: [0, 59, 60]
abbrev zz65_r0:List AI:=[
 aI 4 (.mv true (.c (.int .i64 0)))]
abbrev zz65_r1:List AI:=[
 aM 18 1,
 aI 19 (.len false (.t 18)),
 aI 20 (.mv false (.c (.int .i64 0)))]
abbrev zz65_r2:List AI:=[
 aI 21 (.bin .lss (.t 20) (.t 19))]
abbrev zz65_r3:List AI:=[
 aI 22 (.iaddr 1 (.t 18) (.t 20)),
 aI 23 (.load false 1 (.t 22) .any),
 aN 6 23]
abbrev zz65_r4:List AI:=[
 aM 25 6,
 aI 26 (.call (.c (.fn f_zz34)) [(.t 25)] 0),
 aM 24 26,
 aI 27 (.ext (.t 24) 0),
 aI 28 (.ext (.t 24) 1),
 aN 7 27,
 aN 8 28]
abbrev zz65_r5:List AI:=[
 aM 29 8,
 aI 30 (.bin .neq (.t 29) (.c (.int .i64 0)))]
abbrev zz65_r6:List AI:=[
 aM 31 8,
 aN 4 31]
abbrev zz65_r7:List AI:=[
 aM 32 7,
 aI 33 (.len false (.t 32)),
 aI 34 (.mv false (.c (.int .i64 0)))]
abbrev zz65_r8:List AI:=[
 aI 35 (.bin .lss (.t 34) (.t 33))]
abbrev zz65_r9:List AI:=[
 aI 36 (.iaddr 1 (.t 32) (.t 34)),
 aI 37 (.load false 1 (.t 36) .any),
 aN 10 37]
abbrev zz65_r10:List AI:=[
 aM 39 0,
 aM 40 10,
 aI 41 (.call (.c (.fn f_zz33)) [(.t 39),(.t 40)] 0),
 aM 38 41,
 aI 42 (.ext (.t 38) 0),
 aI 43 (.ext (.t 38) 1),
 aN 11 42,
 aN 12 43]
abbrev zz65_r11:List AI:=[
 aM 44 12,
 aI 45 (.bin .neq (.t 44) (.c (.int .i64 0)))]
abbrev zz65_r12:List AI:=[
 aM 46 12,
 aN 4 46]
abbrev zz65_r13:List AI:=[
 aM 47 6,
 aM 48 10,
 aM 49 11,
 aI 50 (.call (.c (.fn f_zz44)) [(.t 47),(.t 48),(.t 49)] 0),
 aN 13 50]
abbrev zz65_r14:List AI:=[
 aM 51 13,
 aI 52 (.bin .neq (.t 51) (.c (.int .i64 0)))]
abbrev zz65_r15:List AI:=[
 aM 53 13,
 aN 4 53]
abbrev zz65_r16:List AI:=[
 aI 54 (.bin .add (.t 34) (.c (.int .i64 1))),
 aM 34 54]
abbrev zz65_l0:ACode:=.seq (.reg false zz65_r8) (.seq (.cond (.t 35) (.skip) (.exit 2)) (.seq (.block 3 (.seq (.reg false zz65_r9) (.seq (.reg false zz65_r10) (.seq (.seq (.reg false zz65_r11) (.cond (.t 45) (.seq (.reg false zz65_r12) (.ret)) (.skip))) (.seq (.reg false zz65_r13) (.seq (.reg false zz65_r14) (.cond (.t 52) (.seq (.reg false zz65_r15) (.ret)) (.skip)))))))) (.reg false zz65_r16)))
abbrev zz65_r17:List AI:=[
 aI 55 (.bin .add (.t 20) (.c (.int .i64 1))),
 aM 20 55]
abbrev zz65_l1:ACode:=.seq (.reg false zz65_r2) (.seq (.cond (.t 21) (.skip) (.exit 0)) (.seq (.block 1 (.seq (.reg false zz65_r3) (.seq (.reg false zz65_r4) (.seq (.seq (.reg false zz65_r5) (.cond (.t 30) (.seq (.reg false zz65_r6) (.ret)) (.skip))) (.seq (.reg false zz65_r7) (.block 2 (.loop zz65_l0))))))) (.reg false zz65_r17)))
abbrev zz65_r18:List AI:=[
 aM 56 0,
 aI 57 (.nilck (.t 56)),
 aI 58 (.faddr 1 (.t 57)),
 aI 59 (.load false 1 (.t 58) .any),
 aI 60 (.mv false (.c (.int .i64 0)))]
abbrev zz65_r19:List AI:=[
 aI 61 (.bin .lss (.t 60) (.t 59))]
abbrev zz65_r20:List AI:=[
 aM 62 60,
 aN 14 62]
abbrev zz65_r21:List AI:=[
 aM 64 0,
 aI 65 (.nilck (.t 64)),
 aI 66 (.faddr 0 (.t 65)),
 aI 67 (.load false 1 (.t 66) .any),
 aM 68 14,
 aI 69 (.call (.c (.fn f_zz71)) [(.t 67),(.t 68),(.c (.int .i64 6))] 0),
 aM 63 69,
 aI 70 (.ext (.t 63) 0),
 aI 71 (.ext (.t 63) 1),
 aN 15 70,
 aN 16 71]
abbrev zz65_r22:List AI:=[
 aM 72 16,
 aI 73 (.bin .neq (.t 72) (.c (.int .i64 0)))]
abbrev zz65_r23:List AI:=[
 aM 74 16,
 aN 4 74]
abbrev zz65_r24:List AI:=[
 aM 75 15,
 aI 76 (.bin .neq (.t 75) (.c (.str [])))]
abbrev zz65_r25:List AI:=[
 aM 77 0,
 aI 78 (.nilck (.t 77)),
 aI 79 (.faddr 0 (.t 78)),
 aI 80 (.load false 1 (.t 79) .any),
 aM 81 14,
 aI 82 (.call (.m 80 [(170,f_zz31)]) [(.t 81)] 0),
 aN 17 82]
abbrev zz65_r26:List AI:=[
 aM 83 17,
 aI 84 (.bin .neq (.t 83) (.c (.int .i64 0)))]
abbrev zz65_r27:List AI:=[
 aM 85 17,
 aN 4 85]
abbrev zz65_b0:ACode:=.seq (.reg false zz65_r25) (.seq (.reg false zz65_r26) (.cond (.t 84) (.seq (.reg false zz65_r27) (.ret)) (.skip)))
abbrev zz65_r28:List AI:=[
 aI 86 (.bin .add (.t 60) (.c (.int .i64 1))),
 aM 60 86]
abbrev zz65_l2:ACode:=.seq (.reg false zz65_r19) (.seq (.cond (.t 61) (.skip) (.exit 4)) (.seq (.block 5 (.seq (.reg false zz65_r20) (.seq (.reg false zz65_r21) (.seq (.seq (.reg false zz65_r22) (.cond (.t 73) (.seq (.reg false zz65_r23) (.ret)) (.skip))) (.seq (.reg false zz65_r24) (.cond (.t 76) (zz65_b0) (.skip))))))) (.reg false zz65_r28)))
abbrev zz65_r29:List AI:=[
 aI 4 (.mv true (.c (.int .i64 0)))]
abbrev zz65_c:ACode:=.seq (.reg false zz65_r0) (.seq (.seq (.reg false zz65_r1) (.block 0 (.loop zz65_l1))) (.seq (.seq (.reg false zz65_r18) (.block 4 (.loop zz65_l2))) (.seq (.reg false zz65_r29) (.ret))))
def zz65_F:AFunc:=⟨87,[.tmp 4],zz65_c⟩
theorem zz65_cp:zf Try.prog [] f_zz65=some zz65_F:=by kernel_rfl
-- loop 0: [2, 14, 15]
abbrev zz18_r0:List AI:=[
 aI 0 (.mv true (.c .nilP)),
 aI 1 (.mv true (.c (.bool false)))]
abbrev zz18_r1:List AI:=[
 aI 5 (.call (.c (.fn f_zz69)) [(.c (.int .i64 16))] 0),
 aI 6 (.call (.c (.fn f_zz69)) [(.c (.int .i64 16))] 0),
 aI 7 (.call (.c (.fn f_zz69)) [(.c (.int .i64 8))] 0),
 aI 8 (.build [.nilP,.nilP,.nilP] [(0,1,(.t 5)),(1,1,(.t 6)),(2,1,(.t 7))]),
 aI 9 (.build [.nilP,.nilP,.nilP,.nilP,.nilS] [(0,3,(.t 8))]),
 aI 10 (.gn (.box 5) [(.t 9)]),
 aN 2 10]
abbrev zz18_r2:List AI:=[
 aM 11 2,
 aI 12 (.nilck (.t 11)),
 aI 13 (.faddr 0 (.t 12)),
 aI 14 (.load true 3 (.t 13) .any),
 aI 15 (.mv false (.c (.int .i64 0)))]
abbrev zz18_r3:List AI:=[
 aI 16 (.bin .lss (.t 15) (.c (.int .i64 3)))]
abbrev zz18_r4:List AI:=[
 aI 17 (.idxA false 3 1 (.t 14) (.t 15)),
 aN 4 17]
abbrev zz18_r5:List AI:=[
 aM 18 4,
 aI 19 (.gd (.pnil 0 false) [(.t 18)])]
abbrev zz18_r6:List AI:=[
 aM 20 2,
 aN 0 20,
 aI 1 (.mv true (.c (.bool false)))]
abbrev zz18_r7:List AI:=[
 aI 21 (.bin .add (.t 15) (.c (.int .i64 1))),
 aM 15 21]
abbrev zz18_l0:ACode:=.seq (.reg false zz18_r3) (.seq (.cond (.t 16) (.skip) (.exit 0)) (.seq (.block 1 (.seq (.reg false zz18_r4) (.seq (.reg false zz18_r5) (.cond (.t 19) (.seq (.reg false zz18_r6) (.ret)) (.skip))))) (.reg false zz18_r7)))
abbrev zz18_r8:List AI:=[
 aM 22 2,
 aI 23 (.nilck (.t 22)),
 aI 24 (.faddr 0 (.t 23)),
 aI 25 (.iaddrA 3 1 (.t 24) (.c (.int .i64 0))),
 aI 26 (.load false 1 (.t 25) .any),
 aI 27 (.call (.c (.fn f_zz64)) [(.t 26),(.c (.int .i64 0)),(.c (.int .i64 2))] 0),
 aI 28 (.bin .neq (.t 27) (.c (.int .i64 0))),
 aM 29 28,
 aF 30 29 (.mv false (.t 2)),
 aF 31 29 (.nilck (.t 30)),
 aF 32 29 (.faddr 0 (.t 31)),
 aF 33 29 (.iaddrA 3 1 (.t 32) (.c (.int .i64 1))),
 aF 34 29 (.load false 1 (.t 33) .any),
 aF 35 29 (.call (.c (.fn f_zz64)) [(.t 34),(.c (.int .i64 0)),(.c (.int .i64 2))] 0),
 aF 36 29 (.bin .neq (.t 35) (.c (.int .i64 0))),
 aI 37 (.pick (.t 29) (.c (.bool true)) (.t 36)),
 aM 38 37,
 aF 39 38 (.mv false (.t 2)),
 aF 40 38 (.nilck (.t 39)),
 aF 41 38 (.faddr 0 (.t 40)),
 aF 42 38 (.iaddrA 3 1 (.t 41) (.c (.int .i64 2))),
 aF 43 38 (.load false 1 (.t 42) .any),
 aF 44 38 (.call (.c (.fn f_zz51)) [(.t 43),(.c (.int .i64 0)),(.c (.int .i64 4))] 0),
 aF 45 38 (.bin .neq (.t 44) (.c (.int .i64 0))),
 aI 46 (.pick (.t 38) (.c (.bool true)) (.t 45))]
abbrev zz18_r9:List AI:=[
 aM 47 2,
 aN 0 47,
 aI 1 (.mv true (.c (.bool false)))]
abbrev zz18_r10:List AI:=[
 aM 48 2,
 aM 49 2,
 aI 50 (.call (.c (.fn f_zz6)) [(.t 49)] 0),
 aN 0 48,
 aN 1 50]
abbrev zz18_c:ACode:=.seq (.reg false zz18_r0) (.seq (.reg false zz18_r1) (.seq (.seq (.reg false zz18_r2) (.block 0 (.loop zz18_l0))) (.seq (.seq (.reg false zz18_r8) (.cond (.t 46) (.seq (.reg false zz18_r9) (.ret)) (.skip))) (.seq (.reg false zz18_r10) (.ret)))))
def zz18_F:AFunc:=⟨51,[.tmp 0,.tmp 1],zz18_c⟩
theorem zz18_cp:zf Try.prog [10] f_zz18=some zz18_F:=by kernel_rfl
abbrev zz6_r0:List AI:=[
 aI 2 (.mv true (.c (.bool false)))]
abbrev zz6_r1:List AI:=[
 aM 10 0,
 aI 11 (.nilck (.t 10)),
 aI 12 (.faddr 0 (.t 11)),
 aI 13 (.iaddrA 3 1 (.t 12) (.c (.int .i64 2))),
 aI 14 (.load false 1 (.t 13) .any),
 aI 15 (.call (.c (.fn f_zz59)) [(.t 14),(.c (.int .i64 0)),(.c (.int .i64 4))] 0),
 aM 9 15,
 aI 16 (.ext (.t 9) 0),
 aI 17 (.ext (.t 9) 1),
 aN 3 16,
 aN 4 17]
abbrev zz6_r2:List AI:=[
 aM 19 0,
 aI 20 (.nilck (.t 19)),
 aI 21 (.faddr 0 (.t 20)),
 aI 22 (.iaddrA 3 1 (.t 21) (.c (.int .i64 0))),
 aI 23 (.load false 1 (.t 22) .any),
 aI 24 (.call (.c (.fn f_zz70)) [(.t 23),(.c (.int .i64 0)),(.c (.int .i64 2))] 0),
 aM 18 24,
 aI 25 (.ext (.t 18) 0),
 aI 26 (.ext (.t 18) 1),
 aN 5 25,
 aN 6 26]
abbrev zz6_r3:List AI:=[
 aM 28 0,
 aI 29 (.nilck (.t 28)),
 aI 30 (.faddr 0 (.t 29)),
 aI 31 (.iaddrA 3 1 (.t 30) (.c (.int .i64 1))),
 aI 32 (.load false 1 (.t 31) .any),
 aI 33 (.call (.c (.fn f_zz70)) [(.t 32),(.c (.int .i64 0)),(.c (.int .i64 2))] 0),
 aM 27 33,
 aI 34 (.ext (.t 27) 0),
 aI 35 (.ext (.t 27) 1),
 aN 7 34,
 aN 8 35]
abbrev zz6_r4:List AI:=[
 aM 36 0,
 aM 37 0,
 aM 38 3,
 aM 39 5,
 aM 40 7,
 aI 41 (.mkslice 1 2 .nilP [(0,(.t 39)),(1,(.t 40))]),
 aI 42 (.nilck (.t 36)),
 aI 43 (.faddr 3 (.t 42)),
 aS (.store 1 (.t 43) (.t 38) .any),
 aI 44 (.nilck (.t 37)),
 aI 45 (.faddr 4 (.t 44)),
 aS (.store 1 (.t 45) (.t 41) .any)]
abbrev zz6_r5:List AI:=[
 aM 46 4,
 aI 47 (.bin .eql (.t 46) (.c (.int .i64 0))),
 aM 48 47,
 aT 49 48 (.mv false (.t 6)),
 aT 50 48 (.bin .eql (.t 49) (.c (.int .i64 0))),
 aI 51 (.pick (.t 48) (.t 50) (.c (.bool false))),
 aM 52 51,
 aT 53 52 (.mv false (.t 8)),
 aT 54 52 (.bin .eql (.t 53) (.c (.int .i64 0))),
 aI 55 (.pick (.t 52) (.t 54) (.c (.bool false))),
 aM 56 55,
 aT 57 56 (.mv false (.t 3)),
 aT 58 56 (.gd (.pnil 0 true) [(.t 57)]),
 aI 59 (.pick (.t 56) (.t 58) (.c (.bool false))),
 aM 60 59,
 aT 61 60 (.mv false (.t 5)),
 aT 62 60 (.gd (.pnil 0 true) [(.t 61)]),
 aI 63 (.pick (.t 60) (.t 62) (.c (.bool false))),
 aM 64 63,
 aT 65 64 (.mv false (.t 7)),
 aT 66 64 (.gd (.pnil 0 true) [(.t 65)]),
 aI 67 (.pick (.t 64) (.t 66) (.c (.bool false))),
 aN 2 67]
abbrev zz6_c:ACode:=.seq (.reg false zz6_r0) (.seq (.reg false zz6_r1) (.seq (.reg false zz6_r2) (.seq (.reg false zz6_r3) (.seq (.reg false zz6_r4) (.seq (.reg false zz6_r5) (.ret))))))
def zz6_F:AFunc:=⟨68,[.tmp 2],zz6_c⟩
theorem zz6_cp:zf Try.prog [] f_zz6=some zz6_F:=by kernel_rfl
abbrev zz27_r0:List AI:=[
 aI 8 (.mv true (.c (.bool false)))]
abbrev zz27_r1:List AI:=[
 aM 12 0,
 aM 13 1,
 aI 14 (.call (.c (.fn f_zz60)) [(.t 12),(.t 13)] 0),
 aM 11 14,
 aI 15 (.ext (.t 11) 0),
 aI 16 (.ext (.t 11) 1),
 aI 9 (.alloc [(.int .i64 0),(.str [])]),
 aS (.store 2 (.t 9) (.t 15) .any),
 aN 10 16]
abbrev zz27_r2:List AI:=[
 aM 17 10,
 aI 18 (.bin .eql (.t 17) (.c (.int .i64 0))),
 aM 19 18,
 aT 20 19 (.load true 2 (.t 9) .any),
 aT 21 19 (.mv false (.t 2)),
 aT 22 19 (.mv false (.t 3)),
 aT 23 19 (.build [(.int .i64 0),(.str [])] [(0,1,(.t 21)),(1,1,(.t 22))]),
 aT 24 19 (.eqs false [.i,.s] (.t 20) (.t 23)),
 aI 25 (.pick (.t 19) (.t 24) (.c (.bool false))),
 aN 8 25]
abbrev zz27_c:ACode:=.seq (.reg false zz27_r0) (.seq (.reg false zz27_r1) (.seq (.reg false zz27_r2) (.ret)))
def zz27_F:AFunc:=⟨26,[.tmp 8],zz27_c⟩
theorem zz27_cp:zf Try.prog [] f_zz27=some zz27_F:=by kernel_rfl
-- loop 0: [0, 1, 5]
abbrev zz7_r0:List AI:=[
 aI 4 (.mv true (.c (.bool false)))]
abbrev zz7_r1:List AI:=[
 aM 6 0,
 aI 7 (.len false (.t 6)),
 aM 8 1,
 aI 9 (.len false (.t 8)),
 aI 10 (.bin .neq (.t 7) (.t 9))]
abbrev zz7_r2:List AI:=[
 aI 4 (.mv true (.c (.bool false)))]
abbrev zz7_r3:List AI:=[
 aI 5 (.mv true (.c (.int .i64 0)))]
abbrev zz7_r4:List AI:=[
 aM 11 5,
 aM 12 0,
 aI 13 (.len false (.t 12)),
 aI 14 (.bin .lss (.t 11) (.t 13))]
abbrev zz7_r5:List AI:=[
 aM 17 0,
 aM 18 5,
 aI 19 (.iaddr 1 (.t 17) (.t 18)),
 aI 20 (.load false 1 (.t 19) .foreign),
 aM 21 1,
 aM 22 5,
 aI 23 (.iaddr 1 (.t 21) (.t 22)),
 aI 24 (.load false 1 (.t 23) .foreign),
 aI 25 (.bin .neq (.t 20) (.t 24))]
abbrev zz7_r6:List AI:=[
 aI 4 (.mv true (.c (.bool false)))]
abbrev zz7_r7:List AI:=[
 aM 15 5,
 aI 16 (.bin .add (.t 15) (.c (.int .i64 1))),
 aN 5 16]
abbrev zz7_l0:ACode:=.seq (.seq (.reg false zz7_r4) (.cond (.t 14) (.skip) (.exit 0))) (.seq (.block 1 (.seq (.reg true zz7_r5) (.cond (.t 25) (.seq (.reg false zz7_r6) (.ret)) (.skip)))) (.reg false zz7_r7))
abbrev zz7_r8:List AI:=[
 aI 4 (.mv true (.c (.bool true)))]
abbrev zz7_c:ACode:=.seq (.reg false zz7_r0) (.seq (.seq (.reg false zz7_r1) (.cond (.t 10) (.seq (.reg false zz7_r2) (.ret)) (.skip))) (.seq (.seq (.reg false zz7_r3) (.block 0 (.loop zz7_l0))) (.seq (.reg false zz7_r8) (.ret))))
def zz7_F:AFunc:=⟨26,[.tmp 4],zz7_c⟩
theorem zz7_cp:zf Try.prog [] f_zz7=some zz7_F:=by kernel_rfl
-- loop 0: [2, 4, 5, 6, 13, 14, 15, 20]
-- loop 1: [2, 4, 13, 14, 15]
abbrev zz11_r0:List AI:=[
 aI 0 (.mv true (.c (.bool false)))]
abbrev zz11_r1:List AI:=[
 aI 18 (.call (.c (.fn f_zz18)) [] 0),
 aM 17 18,
 aI 19 (.ext (.t 17) 0),
 aI 20 (.ext (.t 17) 1),
 aN 1 19,
 aN 2 20]
abbrev zz11_r2:List AI:=[
 aM 21 2,
 aI 22 (.not (.t 21))]
abbrev zz11_r3:List AI:=[
 aI 0 (.mv true (.c (.bool false)))]
abbrev zz11_r4:List AI:=[
 aM 23 1,
 aI 24 (.nilck (.t 23)),
 aI 25 (.faddr 4 (.t 24)),
 aI 26 (.load false 1 (.t 25) .any),
 aN 3 26]
abbrev zz11_r5:List AI:=[
 aM 28 1,
 aI 29 (.nilck (.t 28)),
 aI 30 (.faddr 3 (.t 29)),
 aI 31 (.load false 1 (.t 30) .any),
 aM 32 3,
 aI 33 (.build [(.int .i64 0),(.int .i64 0),(.str []),(.bool false)] [(0,1,(.c (.int .i64 0))),(2,1,(.c (.str [97])))]),
 aI 34 (.mkslice 4 1 (.agg [(.int .i64 0),(.int .i64 0),(.str []),(.bool false)]) [(0,(.t 33))]),
 aI 35 (.build [(.int .i64 0),(.int .i64 0),(.str []),(.bool false)] [(0,1,(.c (.int .i64 0))),(2,1,(.c (.str [98])))]),
 aI 36 (.mkslice 4 1 (.agg [(.int .i64 0),(.int .i64 0),(.str []),(.bool false)]) [(0,(.t 35))]),
 aI 37 (.mkslice 1 2 .nilS [(0,(.t 34)),(1,(.t 36))]),
 aI 38 (.call (.c (.fn f_zz72)) [(.t 31),(.t 32),(.c (.int .i64 1)),(.t 37)] 0),
 aM 27 38,
 aI 39 (.ext (.t 27) 0),
 aI 40 (.ext (.t 27) 1),
 aN 4 39,
 aN 5 40]
abbrev zz11_r6:List AI:=[
 aM 41 4,
 aI 42 (.not (.t 41)),
 aM 43 42,
 aF 44 43 (.mv false (.t 5)),
 aF 45 43 (.bin .neq (.t 44) (.c (.int .i64 0))),
 aI 46 (.pick (.t 43) (.c (.bool true)) (.t 45)),
 aM 47 46,
 aF 48 47 (.mv false (.t 3)),
 aF 49 47 (.iaddr 1 (.t 48) (.c (.int .i64 0))),
 aF 50 47 (.load false 1 (.t 49) .any),
 aF 51 47 (.call (.c (.fn f_zz27)) [(.t 50),(.c (.int .i64 0)),(.c (.int .i64 1)),(.c (.str [97]))] 0),
 aF 52 47 (.not (.t 51)),
 aI 53 (.pick (.t 47) (.c (.bool true)) (.t 52)),
 aM 54 53,
 aF 55 54 (.mv false (.t 3)),
 aF 56 54 (.iaddr 1 (.t 55) (.c (.int .i64 1))),
 aF 57 54 (.load false 1 (.t 56) .any),
 aF 58 54 (.call (.c (.fn f_zz27)) [(.t 57),(.c (.int .i64 0)),(.c (.int .i64 1)),(.c (.str [98]))] 0),
 aF 59 54 (.not (.t 58)),
 aI 60 (.pick (.t 54) (.c (.bool true)) (.t 59))]
abbrev zz11_r7:List AI:=[
 aI 0 (.mv true (.c (.bool false)))]
abbrev zz11_r8:List AI:=[
 aM 62 1,
 aI 63 (.nilck (.t 62)),
 aI 64 (.faddr 3 (.t 63)),
 aI 65 (.load false 1 (.t 64) .any),
 aM 66 3,
 aI 67 (.build [(.int .i64 0),(.int .i64 0),(.str []),(.bool false)] [(0,1,(.c (.int .i64 0))),(2,1,(.c (.str [120])))]),
 aI 68 (.mkslice 4 1 (.agg [(.int .i64 0),(.int .i64 0),(.str []),(.bool false)]) [(0,(.t 67))]),
 aI 69 (.mkslice 1 2 .nilS [(0,(.t 68)),(1,(.c .nilS))]),
 aI 70 (.call (.c (.fn f_zz72)) [(.t 65),(.t 66),(.c (.int .i64 2)),(.t 69)] 0),
 aM 61 70,
 aI 71 (.ext (.t 61) 0),
 aI 72 (.ext (.t 61) 1),
 aN 6 71,
 aN 7 72]
abbrev zz11_r9:List AI:=[
 aM 73 3,
 aI 74 (.iaddr 1 (.t 73) (.c (.int .i64 0))),
 aI 75 (.load false 1 (.t 74) .any),
 aI 76 (.build [(.int .i64 0),(.int .i64 0),(.str []),(.bool false)] [(0,1,(.c (.int .i64 0))),(1,1,(.c (.int .i64 1))),(2,1,(.c (.str [99])))]),
 aI 77 (.mkslice 4 1 (.agg [(.int .i64 0),(.int .i64 0),(.str []),(.bool false)]) [(0,(.t 76))]),
 aI 78 (.call (.c (.fn f_zz35)) [(.t 75),(.c (.int .i64 3)),(.t 77)] 0),
 aN 8 78]
abbrev zz11_r10:List AI:=[
 aM 80 3,
 aI 81 (.iaddr 1 (.t 80) (.c (.int .i64 0))),
 aI 82 (.load false 1 (.t 81) .any),
 aI 83 (.call (.c (.fn f_zz34)) [(.t 82)] 0),
 aM 79 83,
 aI 84 (.ext (.t 79) 0),
 aI 85 (.ext (.t 79) 1),
 aN 9 84,
 aN 10 85]
abbrev zz11_r11:List AI:=[
 aM 86 6,
 aM 87 86,
 aF 88 87 (.mv false (.t 7)),
 aF 89 87 (.bin .neq (.t 88) (.c (.int .i64 15))),
 aI 90 (.pick (.t 87) (.c (.bool true)) (.t 89)),
 aM 91 90,
 aF 92 91 (.mv false (.t 8)),
 aF 93 91 (.bin .neq (.t 92) (.c (.int .i64 0))),
 aI 94 (.pick (.t 91) (.c (.bool true)) (.t 93)),
 aM 95 94,
 aF 96 95 (.mv false (.t 10)),
 aF 97 95 (.bin .neq (.t 96) (.c (.int .i64 0))),
 aI 98 (.pick (.t 95) (.c (.bool true)) (.t 97)),
 aM 99 98,
 aF 100 99 (.mv false (.t 9)),
 aF 101 99 (.mkslice 1 1 (.int .i64 0) [(0,(.c (.int .i64 3)))]),
 aF 102 99 (.call (.c (.fn f_zz7)) [(.t 100),(.t 101)] 0),
 aF 103 99 (.not (.t 102)),
 aI 104 (.pick (.t 99) (.c (.bool true)) (.t 103)),
 aM 105 104,
 aF 106 105 (.mv false (.t 3)),
 aF 107 105 (.iaddr 1 (.t 106) (.c (.int .i64 0))),
 aF 108 105 (.load false 1 (.t 107) .any),
 aF 109 105 (.call (.c (.fn f_zz27)) [(.t 108),(.c (.int .i64 0)),(.c (.int .i64 1)),(.c (.str [97]))] 0),
 aF 110 105 (.not (.t 109)),
 aI 111 (.pick (.t 105) (.c (.bool true)) (.t 110))]
abbrev zz11_r12:List AI:=[
 aI 0 (.mv true (.c (.bool false)))]
abbrev zz11_r13:List AI:=[
 aM 112 3,
 aI 113 (.iaddr 1 (.t 112) (.c (.int .i64 0))),
 aI 114 (.load false 1 (.t 113) .any),
 aI 115 (.build [(.int .i64 0),(.int .i64 0),(.str []),(.bool false)] [(0,1,(.c (.int .i64 0))),(1,1,(.c (.int .i64 1)))]),
 aI 116 (.mkslice 4 1 (.agg [(.int .i64 0),(.int .i64 0),(.str []),(.bool false)]) [(0,(.t 115))]),
 aI 117 (.call (.c (.fn f_zz35)) [(.t 114),(.c (.int .i64 4)),(.t 116)] 0),
 aN 11 117]
abbrev zz11_r14:List AI:=[
 aM 118 3,
 aI 119 (.iaddr 1 (.t 118) (.c (.int .i64 0))),
 aI 120 (.load false 1 (.t 119) .any),
 aI 121 (.build [(.int .i64 0),(.int .i64 0),(.str []),(.bool false)] [(0,1,(.c (.int .i64 0))),(1,1,(.c (.int .i64 1))),(3,1,(.c (.bool true)))]),
 aI 122 (.mkslice 4 1 (.agg [(.int .i64 0),(.int .i64 0),(.str []),(.bool false)]) [(0,(.t 121))]),
 aI 123 (.call (.c (.fn f_zz35)) [(.t 120),(.c (.int .i64 4)),(.t 122)] 0),
 aN 12 123]
abbrev zz11_r15:List AI:=[
 aM 124 3,
 aI 125 (.iaddr 1 (.t 124) (.c (.int .i64 0))),
 aI 126 (.load false 1 (.t 125) .any),
 aI 127 (.build [(.int .i64 0),(.int .i64 0),(.str []),(.bool false)] [(0,1,(.c (.int .i64 1)))]),
 aI 128 (.mkslice 4 1 (.agg [(.int .i64 0),(.int .i64 0),(.str []),(.bool false)]) [(0,(.t 127))]),
 aI 129 (.call (.c (.fn f_zz35)) [(.t 126),(.c (.int .i64 4)),(.t 128)] 0),
 aN 13 129]
abbrev zz11_r16:List AI:=[
 aM 130 3,
 aI 131 (.iaddr 1 (.t 130) (.c (.int .i64 0))),
 aI 132 (.load false 1 (.t 131) .any),
 aI 133 (.build [(.int .i64 0),(.int .i64 0),(.str []),(.bool false)] [(0,1,(.c (.int .i64 1)))]),
 aI 134 (.mkslice 4 1 (.agg [(.int .i64 0),(.int .i64 0),(.str []),(.bool false)]) [(0,(.t 133))]),
 aI 135 (.call (.c (.fn f_zz35)) [(.t 132),(.c (.int .i64 4)),(.t 134)] 0),
 aN 14 135]
abbrev zz11_r17:List AI:=[
 aM 136 11,
 aI 137 (.bin .neq (.t 136) (.c (.int .i64 4))),
 aM 138 137,
 aF 139 138 (.mv false (.t 12)),
 aF 140 138 (.bin .neq (.t 139) (.c (.int .i64 4))),
 aI 141 (.pick (.t 138) (.c (.bool true)) (.t 140)),
 aM 142 141,
 aF 143 142 (.mv false (.t 13)),
 aF 144 142 (.bin .neq (.t 143) (.c (.int .i64 0))),
 aI 145 (.pick (.t 142) (.c (.bool true)) (.t 144)),
 aM 146 145,
 aF 147 146 (.mv false (.t 14)),
 aF 148 146 (.bin .neq (.t 147) (.c (.int .i64 9))),
 aI 149 (.pick (.t 146) (.c (.bool true)) (.t 148)),
 aM 150 149,
 aF 151 150 (.mv false (.t 1)),
 aF 152 150 (.nilck (.t 151)),
 aF 153 150 (.faddr 3 (.t 152)),
 aF 154 150 (.load false 1 (.t 153) .any),
 aF 155 150 (.call (.c (.fn f_zz43)) [(.t 154),(.c (.int .i64 3))] 0),
 aF 156 150 (.bin .neq (.t 155) (.c (.int .i64 0))),
 aI 157 (.pick (.t 150) (.c (.bool true)) (.t 156)),
 aM 158 157,
 aF 159 158 (.mv false (.t 1)),
 aF 160 158 (.nilck (.t 159)),
 aF 161 158 (.faddr 3 (.t 160)),
 aF 162 158 (.load false 1 (.t 161) .any),
 aF 163 158 (.mv false (.t 3)),
 aF 164 158 (.call (.c (.fn f_zz65)) [(.t 162),(.t 163)] 0),
 aF 165 158 (.bin .neq (.t 164) (.c (.int .i64 0))),
 aI 166 (.pick (.t 158) (.c (.bool true)) (.t 165))]
abbrev zz11_r18:List AI:=[
 aI 0 (.mv true (.c (.bool false)))]
abbrev zz11_r19:List AI:=[
 aM 168 3,
 aI 169 (.iaddr 1 (.t 168) (.c (.int .i64 0))),
 aI 170 (.load false 1 (.t 169) .any),
 aI 171 (.call (.c (.fn f_zz34)) [(.t 170)] 0),
 aM 167 171,
 aI 172 (.ext (.t 167) 0),
 aI 173 (.ext (.t 167) 1),
 aN 9 172,
 aN 10 173]
abbrev zz11_r20:List AI:=[
 aM 175 1,
 aI 176 (.nilck (.t 175)),
 aI 177 (.faddr 3 (.t 176)),
 aI 178 (.load false 1 (.t 177) .any),
 aI 179 (.call (.c (.fn f_zz33)) [(.t 178),(.c (.int .i64 3))] 0),
 aM 174 179,
 aI 180 (.ext (.t 174) 0),
 aI 181 (.ext (.t 174) 1),
 aN 15 180,
 aN 16 181]
abbrev zz11_r21:List AI:=[
 aM 182 3,
 aI 183 (.iaddr 1 (.t 182) (.c (.int .i64 0))),
 aI 184 (.load false 1 (.t 183) .any),
 aI 185 (.call (.c (.fn f_zz27)) [(.t 184),(.c (.int .i64 0)),(.c (.int .i64 2)),(.c (.str [99]))] 0),
 aM 186 185,
 aT 187 186 (.mv false (.t 3)),
 aT 188 186 (.iaddr 1 (.t 187) (.c (.int .i64 0))),
 aT 189 186 (.load false 1 (.t 188) .any),
 aT 190 186 (.call (.c (.fn f_zz27)) [(.t 189),(.c (.int .i64 1)),(.c (.int .i64 0)),(.c (.str []))] 0),
 aI 191 (.pick (.t 186) (.t 190) (.c (.bool false))),
 aM 192 191,
 aT 193 192 (.mv false (.t 10)),
 aT 194 192 (.bin .eql (.t 193) (.c (.int .i64 0))),
 aI 195 (.pick (.t 192) (.t 194) (.c (.bool false))),
 aM 196 195,
 aT 197 196 (.mv false (.t 9)),
 aT 198 196 (.len false (.t 197)),
 aT 199 196 (.bin .eql (.t 198) (.c (.int .i64 0))),
 aI 200 (.pick (.t 196) (.t 199) (.c (.bool false))),
 aM 201 200,
 aT 202 201 (.mv false (.t 15)),
 aT 203 201 (.not (.t 202)),
 aI 204 (.pick (.t 201) (.t 203) (.c (.bool false))),
 aM 205 204,
 aT 206 205 (.mv false (.t 16)),
 aT 207 205 (.bin .eql (.t 206) (.c (.int .i64 0))),
 aI 208 (.pick (.t 205) (.t 207) (.c (.bool false))),
 aN 0 208]
abbrev zz11_c:ACode:=.seq (.reg false zz11_r0) (.seq (.reg false zz11_r1) (.seq (.seq (.reg false zz11_r2) (.cond (.t 22) (.seq (.reg false zz11_r3) (.ret)) (.skip))) (.seq (.reg false zz11_r4) (.seq (.reg false zz11_r5) (.seq (.seq (.reg false zz11_r6) (.cond (.t 60) (.seq (.reg false zz11_r7) (.ret)) (.skip))) (.seq (.reg false zz11_r8) (.seq (.reg false zz11_r9) (.seq (.reg false zz11_r10) (.seq (.seq (.reg false zz11_r11) (.cond (.t 111) (.seq (.reg false zz11_r12) (.ret)) (.skip))) (.seq (.reg false zz11_r13) (.seq (.reg false zz11_r14) (.seq (.reg false zz11_r15) (.seq (.reg false zz11_r16) (.seq (.seq (.reg false zz11_r17) (.cond (.t 166) (.seq (.reg false zz11_r18) (.ret)) (.skip))) (.seq (.reg false zz11_r19) (.seq (.reg false zz11_r20) (.seq (.reg false zz11_r21) (.ret))))))))))))))))))
def zz11_F:AFunc:=⟨209,[.tmp 0],zz11_c⟩
theorem zz11_cp:zf Try.prog [] f_zz11=some zz11_F:=by kernel_rfl
end
end Go.Proofs.Ytlejjdbmmdghmaa
