/-
 The functions' code in the evaluator's form (second part),printed by a program of ours from the loaded program,and checked against it.
 Conditions: none.
-/
import Derived.Test.YtlejjdbmmdghmaaT40
import Derived.Test.YtlejjdbmmdghmaaEN13
namespace Go.Proofs.Ytlejjdbmmdghmaa
open Go Go.E2
noncomputable section
abbrev zz29_r0:List AI:=[
 aI 2 (.alloc [.nilS,.nilS])]
abbrev zz29_r1:List AI:=[
 aM 3 0,
 aI 4 (.gn (.mkSl 2 24 [(.int .i64 0),(.str [])]) [(.t 3),(.t 3)]),
 aI 5 (.build [.nilS,.nilS] [(0,1,(.t 4))]),
 aS (.store 2 (.t 2) (.t 5) .any)]
abbrev zz29_c:ACode:=.seq (.reg false zz29_r0) (.seq (.reg false zz29_r1) (.ret))
def zz29_F:AFunc:=⟨6,[.cell 2 true 2],zz29_c⟩
theorem zz29_cp:zf Try.prog [] f_zz29=some zz29_F:=by kernel_rfl
abbrev zz8_r0:List AI:=[
 aI 2 (.mv true (.c (.bool false)))]
abbrev zz8_r1:List AI:=[
 aM 3 0,
 aI 4 (.bin .geq (.t 3) (.c (.int .i64 1))),
 aM 5 4,
 aT 6 5 (.mv false (.t 0)),
 aT 7 5 (.bin .leq (.t 6) (.c (.int .i64 1099511627776))),
 aI 8 (.pick (.t 5) (.t 7) (.c (.bool false))),
 aN 2 8]
abbrev zz8_c:ACode:=.seq (.reg false zz8_r0) (.seq (.reg false zz8_r1) (.ret))
def zz8_F:AFunc:=⟨9,[.tmp 2],zz8_c⟩
theorem zz8_cp:zf Try.prog [] f_zz8=some zz8_F:=by kernel_rfl
-- loop 0: [1, 2, 5, 6, 7]
-- loop 1: [1, 2, 5]
abbrev zz19_r0:List AI:=[
 aI 2 (.box 2 (.t 0)),
 aI 4 (.mv true (.c (.bool false)))]
abbrev zz19_r1:List AI:=[
 aM 8 1,
 aI 9 (.len false (.t 8)),
 aI 10 (.bin .lss (.t 9) (.c (.int .i64 1))),
 aM 11 10,
 aF 12 11 (.mv false (.t 1)),
 aF 13 11 (.len false (.t 12)),
 aF 14 11 (.bin .gtr (.t 13) (.c (.int .i64 16))),
 aI 15 (.pick (.t 11) (.c (.bool true)) (.t 14))]
abbrev zz19_r2:List AI:=[
 aI 4 (.mv true (.c (.bool false)))]
abbrev zz19_r3:List AI:=[
 aI 5 (.mv true (.c (.int .i64 0)))]
abbrev zz19_r4:List AI:=[
 aM 16 5,
 aM 17 1,
 aI 18 (.len false (.t 17)),
 aI 19 (.bin .lss (.t 16) (.t 18))]
abbrev zz19_r5:List AI:=[
 aM 22 1,
 aM 23 5,
 aI 24 (.iaddr 4 (.t 22) (.t 23)),
 aI 25 (.load true 4 (.t 24) .any),
 aI 6 (.alloc [(.int .i64 0),(.int .i64 0),(.str []),(.bool false)]),
 aS (.store 4 (.t 6) (.t 25) .any)]
abbrev zz19_r6:List AI:=[
 aI 26 (.faddr 0 (.t 6)),
 aI 27 (.load false 1 (.t 26) .any),
 aI 28 (.bin .lss (.t 27) (.c (.int .i64 0))),
 aM 29 28,
 aF 30 29 (.faddr 0 (.t 6)),
 aF 31 29 (.load false 1 (.t 30) .any),
 aF 32 29 (.faddr 0 (.t 2)),
 aF 33 29 (.load false 1 (.t 32) .any),
 aF 34 29 (.len false (.t 33)),
 aF 35 29 (.bin .geq (.t 31) (.t 34)),
 aI 36 (.pick (.t 29) (.c (.bool true)) (.t 35)),
 aM 37 36,
 aF 38 37 (.faddr 1 (.t 6)),
 aF 39 37 (.load false 1 (.t 38) .any),
 aF 40 37 (.bin .lss (.t 39) (.c (.int .i64 0))),
 aI 41 (.pick (.t 37) (.c (.bool true)) (.t 40)),
 aM 42 41,
 aF 43 42 (.faddr 1 (.t 6)),
 aF 44 42 (.load false 1 (.t 43) .any),
 aF 45 42 (.bin .gtr (.t 44) (.c (.int .i64 1099511627776))),
 aI 46 (.pick (.t 42) (.c (.bool true)) (.t 45)),
 aM 47 46,
 aF 48 47 (.faddr 2 (.t 6)),
 aF 49 47 (.load false 1 (.t 48) .any),
 aF 50 47 (.len true (.t 49)),
 aF 51 47 (.bin .gtr (.t 50) (.c (.int .i64 40))),
 aI 52 (.pick (.t 47) (.c (.bool true)) (.t 51)),
 aM 53 52,
 aF 54 53 (.faddr 3 (.t 6)),
 aF 55 53 (.load false 1 (.t 54) .any),
 aF 56 53 (.mv false (.t 55)),
 aT 57 56 (.faddr 2 (.t 6)),
 aT 58 56 (.load false 1 (.t 57) .any),
 aT 59 56 (.bin .neq (.t 58) (.c (.str []))),
 aF 60 53 (.pick (.t 56) (.t 59) (.c (.bool false))),
 aI 61 (.pick (.t 53) (.c (.bool true)) (.t 60))]
abbrev zz19_r7:List AI:=[
 aI 4 (.mv true (.c (.bool false)))]
abbrev zz19_r8:List AI:=[
 aI 7 (.mv true (.c (.int .i64 0)))]
abbrev zz19_r9:List AI:=[
 aM 62 7,
 aM 63 5,
 aI 64 (.bin .lss (.t 62) (.t 63))]
abbrev zz19_r10:List AI:=[
 aM 67 1,
 aM 68 7,
 aI 69 (.iaddr 4 (.t 67) (.t 68)),
 aI 70 (.faddr 0 (.t 69)),
 aI 71 (.load false 1 (.t 70) .foreign),
 aI 72 (.faddr 0 (.t 6)),
 aI 73 (.load false 1 (.t 72) (.site 6)),
 aI 74 (.bin .eql (.t 71) (.t 73))]
abbrev zz19_r11:List AI:=[
 aI 4 (.mv true (.c (.bool false)))]
abbrev zz19_r12:List AI:=[
 aM 65 7,
 aI 66 (.bin .add (.t 65) (.c (.int .i64 1))),
 aN 7 66]
abbrev zz19_l0:ACode:=.seq (.seq (.reg false zz19_r9) (.cond (.t 64) (.skip) (.exit 2))) (.seq (.block 3 (.seq (.reg true zz19_r10) (.cond (.t 74) (.seq (.reg false zz19_r11) (.ret)) (.skip)))) (.reg false zz19_r12))
abbrev zz19_r13:List AI:=[
 aM 20 5,
 aI 21 (.bin .add (.t 20) (.c (.int .i64 1))),
 aN 5 21]
abbrev zz19_l1:ACode:=.seq (.seq (.reg false zz19_r4) (.cond (.t 19) (.skip) (.exit 0))) (.seq (.block 1 (.seq (.reg false zz19_r5) (.seq (.seq (.reg false zz19_r6) (.cond (.t 61) (.seq (.reg false zz19_r7) (.ret)) (.skip))) (.seq (.reg false zz19_r8) (.block 2 (.loop zz19_l0)))))) (.reg false zz19_r13))
abbrev zz19_r14:List AI:=[
 aI 4 (.mv true (.c (.bool true)))]
abbrev zz19_c:ACode:=.seq (.reg false zz19_r0) (.seq (.seq (.reg false zz19_r1) (.cond (.t 15) (.seq (.reg false zz19_r2) (.ret)) (.skip))) (.seq (.seq (.reg false zz19_r3) (.block 0 (.loop zz19_l1))) (.seq (.reg false zz19_r14) (.ret))))
def zz19_F:AFunc:=⟨75,[.tmp 4],zz19_c⟩
theorem zz19_cp:zf Try.prog [] f_zz19=some zz19_F:=by kernel_rfl
-- loop 0: [1, 2, 5]
abbrev zz23_r0:List AI:=[
 aI 2 (.box 2 (.t 0)),
 aI 4 (.mv true (.c (.int .i64 0)))]
abbrev zz23_r1:List AI:=[
 aI 5 (.mv true (.c (.int .i64 0)))]
abbrev zz23_r2:List AI:=[
 aM 6 5,
 aI 7 (.faddr 1 (.t 2)),
 aI 8 (.load false 1 (.t 7) .any),
 aI 9 (.len false (.t 8)),
 aI 10 (.bin .lss (.t 6) (.t 9))]
abbrev zz23_r3:List AI:=[
 aI 13 (.faddr 1 (.t 2)),
 aI 14 (.load false 1 (.t 13) .any),
 aM 15 5,
 aI 16 (.iaddr 2 (.t 14) (.t 15)),
 aI 17 (.faddr 0 (.t 16)),
 aI 18 (.load false 1 (.t 17) .any),
 aM 19 1,
 aI 20 (.bin .eql (.t 18) (.t 19))]
abbrev zz23_r4:List AI:=[
 aM 21 5,
 aN 4 21]
abbrev zz23_r5:List AI:=[
 aM 11 5,
 aI 12 (.bin .add (.t 11) (.c (.int .i64 1))),
 aN 5 12]
abbrev zz23_l0:ACode:=.seq (.seq (.reg false zz23_r2) (.cond (.t 10) (.skip) (.exit 0))) (.seq (.block 1 (.seq (.reg false zz23_r3) (.cond (.t 20) (.seq (.reg false zz23_r4) (.ret)) (.skip)))) (.reg false zz23_r5))
abbrev zz23_r6:List AI:=[
 aI 4 (.mv true (.c (.int .i64 (-1))))]
abbrev zz23_c:ACode:=.seq (.reg false zz23_r0) (.seq (.seq (.reg false zz23_r1) (.block 0 (.loop zz23_l0))) (.seq (.reg false zz23_r6) (.ret)))
def zz23_F:AFunc:=⟨22,[.tmp 4],zz23_c⟩
theorem zz23_cp:zf Try.prog [] f_zz23=some zz23_F:=by kernel_rfl
-- loop 0: [2, 3, 5, 6]
-- loop 1: [2, 3, 5]
abbrev zz24_r0:List AI:=[
 aI 2 (.box 2 (.t 0)),
 aI 3 (.box 4 (.t 1)),
 aI 4 (.mv true (.c (.bool false)))]
abbrev zz24_r1:List AI:=[
 aI 5 (.mv true (.c (.int .i64 0)))]
abbrev zz24_r2:List AI:=[
 aM 8 5,
 aI 9 (.faddr 1 (.t 2)),
 aI 10 (.load false 1 (.t 9) .any),
 aI 11 (.len false (.t 10)),
 aI 12 (.bin .lss (.t 8) (.t 11))]
abbrev zz24_r3:List AI:=[
 aI 6 (.mv true (.c (.int .i64 0)))]
abbrev zz24_r4:List AI:=[
 aM 15 6,
 aI 16 (.faddr 1 (.t 2)),
 aI 17 (.load false 1 (.t 16) .any),
 aM 18 5,
 aI 19 (.iaddr 2 (.t 17) (.t 18)),
 aI 20 (.faddr 1 (.t 19)),
 aI 21 (.load false 1 (.t 20) .any),
 aI 22 (.len false (.t 21)),
 aI 23 (.bin .lss (.t 15) (.t 22))]
abbrev zz24_r5:List AI:=[
 aI 26 (.faddr 1 (.t 2)),
 aI 27 (.load false 1 (.t 26) .any),
 aM 28 5,
 aI 29 (.iaddr 2 (.t 27) (.t 28)),
 aI 30 (.faddr 1 (.t 29)),
 aI 31 (.load false 1 (.t 30) .any),
 aM 32 6,
 aI 33 (.iaddr 4 (.t 31) (.t 32)),
 aI 34 (.load true 4 (.t 33) .any),
 aI 7 (.alloc [(.int .i64 0),(.int .i64 0),(.str []),(.bool false)]),
 aS (.store 4 (.t 7) (.t 34) .any)]
abbrev zz24_r6:List AI:=[
 aI 35 (.faddr 0 (.t 7)),
 aI 36 (.load false 1 (.t 35) .any),
 aI 37 (.faddr 0 (.t 3)),
 aI 38 (.load false 1 (.t 37) .any),
 aI 39 (.bin .eql (.t 36) (.t 38)),
 aM 40 39,
 aT 41 40 (.faddr 3 (.t 7)),
 aT 42 40 (.load false 1 (.t 41) .any),
 aT 43 40 (.not (.t 42)),
 aT 44 40 (.mv false (.t 43)),
 aF 45 44 (.faddr 3 (.t 3)),
 aF 46 44 (.load false 1 (.t 45) .any),
 aF 47 44 (.not (.t 46)),
 aT 48 40 (.pick (.t 44) (.c (.bool true)) (.t 47)),
 aI 49 (.pick (.t 40) (.t 48) (.c (.bool false)))]
abbrev zz24_r7:List AI:=[
 aI 4 (.mv true (.c (.bool true)))]
abbrev zz24_r8:List AI:=[
 aM 24 6,
 aI 25 (.bin .add (.t 24) (.c (.int .i64 1))),
 aN 6 25]
abbrev zz24_l0:ACode:=.seq (.seq (.reg false zz24_r4) (.cond (.t 23) (.skip) (.exit 2))) (.seq (.block 3 (.seq (.reg false zz24_r5) (.seq (.reg false zz24_r6) (.cond (.t 49) (.seq (.reg false zz24_r7) (.ret)) (.skip))))) (.reg false zz24_r8))
abbrev zz24_r9:List AI:=[
 aM 13 5,
 aI 14 (.bin .add (.t 13) (.c (.int .i64 1))),
 aN 5 14]
abbrev zz24_l1:ACode:=.seq (.seq (.reg false zz24_r2) (.cond (.t 12) (.skip) (.exit 0))) (.seq (.block 1 (.seq (.reg false zz24_r3) (.block 2 (.loop zz24_l0)))) (.reg false zz24_r9))
abbrev zz24_r10:List AI:=[
 aI 4 (.mv true (.c (.bool false)))]
abbrev zz24_c:ACode:=.seq (.reg false zz24_r0) (.seq (.seq (.reg false zz24_r1) (.block 0 (.loop zz24_l1))) (.seq (.reg false zz24_r10) (.ret)))
def zz24_F:AFunc:=⟨50,[.tmp 4],zz24_c⟩
theorem zz24_cp:zf Try.prog [] f_zz24=some zz24_F:=by kernel_rfl
-- loop 0: [1, 2, 3, 6, 9]
-- loop 1: [1, 2, 3, 6, 11]
-- loop 2: [1, 2, 3, 6, 12, 13, 14]
abbrev zz10_r0:List AI:=[
 aI 3 (.box 2 (.t 0)),
 aI 6 (.alloc [.nilS,.nilS,(.int .i64 0)])]
abbrev zz10_r1:List AI:=[
 aM 15 1,
 aI 16 (.call (.c (.fn f_zz8)) [(.t 15)] 0),
 aN 7 16]
abbrev zz10_r2:List AI:=[
 aI 17 (.load true 2 (.t 3) .any),
 aM 18 2,
 aI 19 (.call (.c (.fn f_zz19)) [(.t 17),(.t 18)] 0),
 aN 8 19]
abbrev zz10_r3:List AI:=[
 aM 20 7,
 aI 21 (.not (.t 20)),
 aM 22 21,
 aF 23 22 (.mv false (.t 8)),
 aF 24 22 (.not (.t 23)),
 aI 25 (.pick (.t 22) (.c (.bool true)) (.t 24))]
abbrev zz10_r4:List AI:=[
 aI 26 (.load true 2 (.t 3) .any),
 aI 27 (.build [.nilS,.nilS,(.int .i64 0)] [(0,2,(.t 26)),(2,1,(.c (.int .i64 1)))]),
 aS (.store 3 (.t 6) (.t 27) .any)]
abbrev zz10_r5:List AI:=[
 aI 28 (.load true 2 (.t 3) .any),
 aM 29 1,
 aI 30 (.call (.c (.fn f_zz23)) [(.t 28),(.t 29)] 0),
 aI 31 (.bin .geq (.t 30) (.c (.int .i64 0)))]
abbrev zz10_r6:List AI:=[
 aI 32 (.load true 2 (.t 3) .any),
 aI 33 (.build [.nilS,.nilS,(.int .i64 0)] [(0,2,(.t 32)),(2,1,(.c (.int .i64 9)))]),
 aS (.store 3 (.t 6) (.t 33) .any)]
abbrev zz10_r7:List AI:=[
 aI 9 (.mv true (.c (.int .i64 0)))]
abbrev zz10_r8:List AI:=[
 aM 34 9,
 aM 35 2,
 aI 36 (.len false (.t 35)),
 aI 37 (.bin .lss (.t 34) (.t 36))]
abbrev zz10_r9:List AI:=[
 aI 40 (.load true 2 (.t 3) (.site 3)),
 aM 41 2,
 aM 42 9,
 aI 43 (.iaddr 4 (.t 41) (.t 42)),
 aI 44 (.load true 4 (.t 43) .foreign),
 aI 45 (.call (.c (.fn f_zz24)) [(.t 40),(.t 44)] 1),
 aN 10 45]
abbrev zz10_r10:List AI:=[
 aM 46 10]
abbrev zz10_r11:List AI:=[
 aI 47 (.load true 2 (.t 3) .any),
 aI 48 (.build [.nilS,.nilS,(.int .i64 0)] [(0,2,(.t 47)),(2,1,(.c (.int .i64 4)))]),
 aS (.store 3 (.t 6) (.t 48) .any)]
abbrev zz10_r12:List AI:=[
 aM 38 9,
 aI 39 (.bin .add (.t 38) (.c (.int .i64 1))),
 aN 9 39]
abbrev zz10_l0:ACode:=.seq (.seq (.reg false zz10_r8) (.cond (.t 37) (.skip) (.exit 0))) (.seq (.block 1 (.seq (.reg true zz10_r9) (.seq (.reg false zz10_r10) (.cond (.t 46) (.seq (.reg false zz10_r11) (.ret)) (.skip))))) (.reg false zz10_r12))
abbrev zz10_r13:List AI:=[
 aI 11 (.mv true (.c (.int .i64 0)))]
abbrev zz10_r14:List AI:=[
 aM 49 11,
 aM 50 2,
 aI 51 (.len false (.t 50)),
 aI 52 (.bin .lss (.t 49) (.t 51))]
abbrev zz10_r15:List AI:=[
 aI 55 (.faddr 0 (.t 3)),
 aI 56 (.load false 1 (.t 55) (.site 3)),
 aM 57 2,
 aM 58 11,
 aI 59 (.iaddr 4 (.t 57) (.t 58)),
 aI 60 (.faddr 0 (.t 59)),
 aI 61 (.load false 1 (.t 60) .foreign),
 aI 62 (.iaddr 2 (.t 56) (.t 61)),
 aI 63 (.faddr 0 (.t 62)),
 aI 64 (.load false 1 (.t 63) .foreign),
 aM 65 2,
 aM 66 11,
 aI 67 (.iaddr 4 (.t 65) (.t 66)),
 aI 68 (.faddr 1 (.t 67)),
 aI 69 (.load false 1 (.t 68) .foreign),
 aI 70 (.bin .neq (.t 64) (.t 69))]
abbrev zz10_r16:List AI:=[
 aI 71 (.load true 2 (.t 3) .any),
 aI 72 (.build [.nilS,.nilS,(.int .i64 0)] [(0,2,(.t 71)),(2,1,(.c (.int .i64 15)))]),
 aS (.store 3 (.t 6) (.t 72) .any)]
abbrev zz10_r17:List AI:=[
 aM 53 11,
 aI 54 (.bin .add (.t 53) (.c (.int .i64 1))),
 aN 11 54]
abbrev zz10_l1:ACode:=.seq (.seq (.reg false zz10_r14) (.cond (.t 52) (.skip) (.exit 2))) (.seq (.block 3 (.seq (.reg true zz10_r15) (.cond (.t 70) (.seq (.reg false zz10_r16) (.ret)) (.skip)))) (.reg false zz10_r17))
abbrev zz10_r18:List AI:=[
 aI 73 (.faddr 1 (.t 3)),
 aI 74 (.load false 1 (.t 73) .any),
 aI 75 (.len false (.t 74)),
 aI 76 (.bin .geq (.t 75) (.c (.int .i64 4)))]
abbrev zz10_r19:List AI:=[
 aI 77 (.load true 2 (.t 3) .any),
 aI 78 (.build [.nilS,.nilS,(.int .i64 0)] [(0,2,(.t 77)),(2,1,(.c (.int .i64 13)))]),
 aS (.store 3 (.t 6) (.t 78) .any)]
abbrev zz10_r20:List AI:=[
 aI 79 (.faddr 0 (.t 3)),
 aI 80 (.load false 1 (.t 79) .any),
 aI 81 (.build [.nilS,.nilS] [(0,1,(.t 80))]),
 aI 12 (.alloc [.nilS,.nilS]),
 aS (.store 2 (.t 12) (.t 81) .any)]
abbrev zz10_r21:List AI:=[
 aI 13 (.mv true (.c (.bool false)))]
abbrev zz10_r22:List AI:=[
 aI 14 (.mv true (.c (.int .i64 0)))]
abbrev zz10_r23:List AI:=[
 aM 82 14,
 aI 83 (.faddr 1 (.t 3)),
 aI 84 (.load false 1 (.t 83) .any),
 aI 85 (.len false (.t 84)),
 aI 86 (.bin .lss (.t 82) (.t 85))]
abbrev zz10_r24:List AI:=[
 aM 89 13,
 aI 90 (.not (.t 89)),
 aM 91 90,
 aT 92 91 (.faddr 1 (.t 3)),
 aT 93 91 (.load false 1 (.t 92) .any),
 aT 94 91 (.mv false (.t 14)),
 aT 95 91 (.iaddr 2 (.t 93) (.t 94)),
 aT 96 91 (.faddr 0 (.t 95)),
 aT 97 91 (.load false 1 (.t 96) .any),
 aT 98 91 (.mv false (.t 1)),
 aT 99 91 (.bin .gtr (.t 97) (.t 98)),
 aI 100 (.pick (.t 91) (.t 99) (.c (.bool false)))]
abbrev zz10_r25:List AI:=[
 aI 101 (.faddr 1 (.t 12)),
 aI 102 (.load false 1 (.t 101) .any),
 aM 103 1,
 aM 104 2,
 aI 105 (.build [(.int .i64 0),.nilS] [(0,1,(.t 103)),(1,1,(.t 104))]),
 aI 106 (.mkslice 2 1 (.agg [(.int .i64 0),.nilS]) [(0,(.t 105))]),
 aI 107 (.appG 2 32 [(.int .i64 0),.nilS] (.t 102) (.t 106)),
 aI 108 (.faddr 1 (.t 12)),
 aS (.store 1 (.t 108) (.t 107) .any)]
abbrev zz10_r26:List AI:=[
 aI 13 (.mv true (.c (.bool true)))]
abbrev zz10_r27:List AI:=[
 aI 109 (.faddr 1 (.t 12)),
 aI 110 (.load false 1 (.t 109) (.site 12)),
 aI 111 (.faddr 1 (.t 3)),
 aI 112 (.load false 1 (.t 111) (.site 3)),
 aM 113 14,
 aI 114 (.iaddr 2 (.t 112) (.t 113)),
 aI 115 (.load true 2 (.t 114) .foreign),
 aI 116 (.mkslice 2 1 (.agg [(.int .i64 0),.nilS]) [(0,(.t 115))]),
 aI 117 (.appG 2 32 [(.int .i64 0),.nilS] (.t 110) (.t 116)),
 aI 118 (.faddr 1 (.t 12)),
 aS (.store 1 (.t 118) (.t 117) (.site 12))]
abbrev zz10_r28:List AI:=[
 aM 87 14,
 aI 88 (.bin .add (.t 87) (.c (.int .i64 1))),
 aN 14 88]
abbrev zz10_l2:ACode:=.seq (.seq (.reg false zz10_r23) (.cond (.t 86) (.skip) (.exit 4))) (.seq (.block 5 (.seq (.seq (.reg false zz10_r24) (.cond (.t 100) (.seq (.reg false zz10_r25) (.reg false zz10_r26)) (.skip))) (.reg true zz10_r27))) (.reg false zz10_r28))
abbrev zz10_r29:List AI:=[
 aM 119 13,
 aI 120 (.not (.t 119))]
abbrev zz10_r30:List AI:=[
 aI 121 (.faddr 1 (.t 12)),
 aI 122 (.load false 1 (.t 121) .any),
 aM 123 1,
 aM 124 2,
 aI 125 (.build [(.int .i64 0),.nilS] [(0,1,(.t 123)),(1,1,(.t 124))]),
 aI 126 (.mkslice 2 1 (.agg [(.int .i64 0),.nilS]) [(0,(.t 125))]),
 aI 127 (.appG 2 32 [(.int .i64 0),.nilS] (.t 122) (.t 126)),
 aI 128 (.faddr 1 (.t 12)),
 aS (.store 1 (.t 128) (.t 127) .any)]
abbrev zz10_r31:List AI:=[
 aI 129 (.load true 2 (.t 12) .any),
 aI 130 (.build [.nilS,.nilS,(.int .i64 0)] [(0,2,(.t 129))]),
 aS (.store 3 (.t 6) (.t 130) .any)]
abbrev zz10_c:ACode:=.seq (.reg false zz10_r0) (.seq (.reg false zz10_r1) (.seq (.reg false zz10_r2) (.seq (.seq (.reg false zz10_r3) (.cond (.t 25) (.seq (.reg false zz10_r4) (.ret)) (.skip))) (.seq (.seq (.reg false zz10_r5) (.cond (.t 31) (.seq (.reg false zz10_r6) (.ret)) (.skip))) (.seq (.seq (.reg false zz10_r7) (.block 0 (.loop zz10_l0))) (.seq (.seq (.reg false zz10_r13) (.block 2 (.loop zz10_l1))) (.seq (.seq (.reg false zz10_r18) (.cond (.t 76) (.seq (.reg false zz10_r19) (.ret)) (.skip))) (.seq (.reg false zz10_r20) (.seq (.reg false zz10_r21) (.seq (.seq (.reg false zz10_r22) (.block 4 (.loop zz10_l2))) (.seq (.seq (.reg false zz10_r29) (.cond (.t 120) (.reg false zz10_r30) (.skip))) (.seq (.reg false zz10_r31) (.ret)))))))))))))
def zz10_F:AFunc:=⟨131,[.cell 6 true 3],zz10_c⟩
theorem zz10_cp:zf Try.prog [107,117,127] f_zz10=some zz10_F:=by kernel_rfl
-- loop 0: [2, 3, 6, 8, 9, 10]
-- loop 1: [2, 3, 6, 8, 9, 11]
abbrev zz12_r0:List AI:=[
 aI 3 (.box 2 (.t 0)),
 aI 6 (.alloc [.nilS,.nilS,(.int .i64 0)])]
abbrev zz12_r1:List AI:=[
 aM 13 1,
 aI 14 (.call (.c (.fn f_zz8)) [(.t 13)] 0),
 aN 7 14]
abbrev zz12_r2:List AI:=[
 aM 15 7,
 aI 16 (.not (.t 15))]
abbrev zz12_r3:List AI:=[
 aI 17 (.load true 2 (.t 3) .any),
 aI 18 (.build [.nilS,.nilS,(.int .i64 0)] [(0,2,(.t 17)),(2,1,(.c (.int .i64 1)))]),
 aS (.store 3 (.t 6) (.t 18) .any)]
abbrev zz12_r4:List AI:=[
 aI 19 (.load true 2 (.t 3) .any),
 aM 20 1,
 aI 21 (.call (.c (.fn f_zz23)) [(.t 19),(.t 20)] 0),
 aN 8 21]
abbrev zz12_r5:List AI:=[
 aM 22 8,
 aI 23 (.bin .lss (.t 22) (.c (.int .i64 0)))]
abbrev zz12_r6:List AI:=[
 aI 24 (.load true 2 (.t 3) .any),
 aI 25 (.build [.nilS,.nilS,(.int .i64 0)] [(0,2,(.t 24))]),
 aS (.store 3 (.t 6) (.t 25) .any)]
abbrev zz12_r7:List AI:=[
 aI 26 (.mkG 2 0 (.agg [(.int .i64 0),(.str [])]) []),
 aI 27 (.faddr 0 (.t 3)),
 aI 28 (.load false 1 (.t 27) .any),
 aI 29 (.appG 2 24 [(.int .i64 0),(.str [])] (.t 26) (.t 28)),
 aI 30 (.build [.nilS,.nilS] [(0,1,(.t 29))]),
 aI 9 (.alloc [.nilS,.nilS]),
 aS (.store 2 (.t 9) (.t 30) .any)]
abbrev zz12_r8:List AI:=[
 aI 10 (.mv true (.c (.int .i64 0)))]
abbrev zz12_r9:List AI:=[
 aM 31 10,
 aI 32 (.faddr 1 (.t 3)),
 aI 33 (.load false 1 (.t 32) .any),
 aI 34 (.len false (.t 33)),
 aI 35 (.bin .lss (.t 31) (.t 34))]
abbrev zz12_r10:List AI:=[
 aM 38 10,
 aM 39 8,
 aI 40 (.bin .neq (.t 38) (.t 39))]
abbrev zz12_r11:List AI:=[
 aI 41 (.faddr 1 (.t 9)),
 aI 42 (.load false 1 (.t 41) (.site 9)),
 aI 43 (.faddr 1 (.t 3)),
 aI 44 (.load false 1 (.t 43) (.site 3)),
 aM 45 10,
 aI 46 (.iaddr 2 (.t 44) (.t 45)),
 aI 47 (.load true 2 (.t 46) .foreign),
 aI 48 (.mkslice 2 1 (.agg [(.int .i64 0),.nilS]) [(0,(.t 47))]),
 aI 49 (.appG 2 32 [(.int .i64 0),.nilS] (.t 42) (.t 48)),
 aI 50 (.faddr 1 (.t 9)),
 aS (.store 1 (.t 50) (.t 49) (.site 9))]
abbrev zz12_r12:List AI:=[
 aM 36 10,
 aI 37 (.bin .add (.t 36) (.c (.int .i64 1))),
 aN 10 37]
abbrev zz12_l0:ACode:=.seq (.seq (.reg false zz12_r9) (.cond (.t 35) (.skip) (.exit 0))) (.seq (.block 1 (.seq (.reg false zz12_r10) (.cond (.t 40) (.reg true zz12_r11) (.skip)))) (.reg false zz12_r12))
abbrev zz12_r13:List AI:=[
 aI 11 (.mv true (.c (.int .i64 0)))]
abbrev zz12_r14:List AI:=[
 aM 51 11,
 aI 52 (.faddr 1 (.t 3)),
 aI 53 (.load false 1 (.t 52) .any),
 aM 54 8,
 aI 55 (.iaddr 2 (.t 53) (.t 54)),
 aI 56 (.faddr 1 (.t 55)),
 aI 57 (.load false 1 (.t 56) .any),
 aI 58 (.len false (.t 57)),
 aI 59 (.bin .lss (.t 51) (.t 58)),
 aM 60 59,
 aT 61 60 (.mv false (.t 2)),
 aI 62 (.pick (.t 60) (.t 61) (.c (.bool false)))]
abbrev zz12_r15:List AI:=[
 aI 65 (.faddr 1 (.t 3)),
 aI 66 (.load false 1 (.t 65) .any),
 aM 67 8,
 aI 68 (.iaddr 2 (.t 66) (.t 67)),
 aI 69 (.faddr 1 (.t 68)),
 aI 70 (.load false 1 (.t 69) .any),
 aM 71 11,
 aI 72 (.iaddr 4 (.t 70) (.t 71)),
 aI 73 (.load true 4 (.t 72) .any),
 aI 12 (.alloc [(.int .i64 0),(.int .i64 0),(.str []),(.bool false)]),
 aS (.store 4 (.t 12) (.t 73) .any)]
abbrev zz12_r16:List AI:=[
 aI 74 (.faddr 3 (.t 12)),
 aI 75 (.load false 1 (.t 74) .any),
 aI 76 (.not (.t 75))]
abbrev zz12_r17:List AI:=[
 aI 77 (.faddr 0 (.t 9)),
 aI 78 (.load false 1 (.t 77) .any),
 aI 79 (.faddr 0 (.t 12)),
 aI 80 (.load false 1 (.t 79) .any),
 aI 81 (.faddr 1 (.t 12)),
 aI 82 (.load false 1 (.t 81) .any),
 aI 83 (.bin .add (.t 82) (.c (.int .i64 1))),
 aI 84 (.faddr 2 (.t 12)),
 aI 85 (.load false 1 (.t 84) .any),
 aI 86 (.build [(.int .i64 0),(.str [])] [(0,1,(.t 83)),(1,1,(.t 85))]),
 aI 87 (.iaddr 2 (.t 78) (.t 80)),
 aS (.store 2 (.t 87) (.t 86) .any)]
abbrev zz12_r18:List AI:=[
 aM 63 11,
 aI 64 (.bin .add (.t 63) (.c (.int .i64 1))),
 aN 11 64]
abbrev zz12_l1:ACode:=.seq (.seq (.reg false zz12_r14) (.cond (.t 62) (.skip) (.exit 2))) (.seq (.block 3 (.seq (.reg false zz12_r15) (.seq (.reg false zz12_r16) (.cond (.t 76) (.reg false zz12_r17) (.skip))))) (.reg false zz12_r18))
abbrev zz12_r19:List AI:=[
 aI 88 (.load true 2 (.t 9) .any),
 aI 89 (.build [.nilS,.nilS,(.int .i64 0)] [(0,2,(.t 88))]),
 aS (.store 3 (.t 6) (.t 89) .any)]
abbrev zz12_c:ACode:=.seq (.reg false zz12_r0) (.seq (.reg false zz12_r1) (.seq (.seq (.reg false zz12_r2) (.cond (.t 16) (.seq (.reg false zz12_r3) (.ret)) (.skip))) (.seq (.reg false zz12_r4) (.seq (.seq (.reg false zz12_r5) (.cond (.t 23) (.seq (.reg false zz12_r6) (.ret)) (.skip))) (.seq (.reg false zz12_r7) (.seq (.seq (.reg false zz12_r8) (.block 0 (.loop zz12_l0))) (.seq (.seq (.reg false zz12_r13) (.block 2 (.loop zz12_l1))) (.seq (.reg false zz12_r19) (.ret)))))))))
def zz12_F:AFunc:=⟨90,[.cell 6 true 3],zz12_c⟩
theorem zz12_cp:zf Try.prog [26,29,49] f_zz12=some zz12_F:=by kernel_rfl
-- loop 0: [1, 3, 4]
abbrev zz9_r0:List AI:=[
 aI 1 (.box 2 (.t 0)),
 aI 2 (.mv true (.c .nilS))]
abbrev zz9_r1:List AI:=[
 aI 3 (.mv true (.c .nilS))]
abbrev zz9_r2:List AI:=[
 aI 4 (.mv true (.c (.int .i64 0)))]
abbrev zz9_r3:List AI:=[
 aM 5 4,
 aI 6 (.faddr 1 (.t 1)),
 aI 7 (.load false 1 (.t 6) .any),
 aI 8 (.len false (.t 7)),
 aI 9 (.bin .lss (.t 5) (.t 8))]
abbrev zz9_r4:List AI:=[
 aN 12 3,
 aI 13 (.faddr 1 (.t 1)),
 aI 14 (.load false 1 (.t 13) .any),
 aM 15 4,
 aI 16 (.iaddr 2 (.t 14) (.t 15)),
 aI 17 (.faddr 0 (.t 16)),
 aI 18 (.load false 1 (.t 17) .any),
 aI 19 (.mkslice 1 1 (.int .i64 0) [(0,(.t 18))]),
 aI 20 (.append 1 8 (.t 12) (.t 19)),
 aN 3 20]
abbrev zz9_r5:List AI:=[
 aM 10 4,
 aI 11 (.bin .add (.t 10) (.c (.int .i64 1))),
 aN 4 11]
abbrev zz9_l0:ACode:=.seq (.seq (.reg false zz9_r3) (.cond (.t 9) (.skip) (.exit 0))) (.seq (.block 1 (.reg false zz9_r4)) (.reg false zz9_r5))
abbrev zz9_r6:List AI:=[
 aM 21 3,
 aN 2 21]
abbrev zz9_c:ACode:=.seq (.reg false zz9_r0) (.seq (.reg false zz9_r1) (.seq (.seq (.reg false zz9_r2) (.block 0 (.loop zz9_l0))) (.seq (.reg false zz9_r6) (.ret))))
def zz9_F:AFunc:=⟨22,[.tmp 2],zz9_c⟩
theorem zz9_cp:zf Try.prog [] f_zz9=some zz9_F:=by kernel_rfl
-- loop 0: [1, 2, 5]
abbrev zz28_r0:List AI:=[
 aI 2 (.box 2 (.t 0)),
 aI 4 (.mv true (.c (.bool false)))]
abbrev zz28_r1:List AI:=[
 aI 5 (.mv true (.c (.int .i64 0)))]
abbrev zz28_r2:List AI:=[
 aM 6 5,
 aI 7 (.faddr 0 (.t 2)),
 aI 8 (.load false 1 (.t 7) .any),
 aI 9 (.len false (.t 8)),
 aI 10 (.bin .lss (.t 6) (.t 9))]
abbrev zz28_r3:List AI:=[
 aI 13 (.faddr 0 (.t 2)),
 aI 14 (.load false 1 (.t 13) .any),
 aM 15 5,
 aI 16 (.iaddr 1 (.t 14) (.t 15)),
 aI 17 (.load false 1 (.t 16) .any),
 aM 18 1,
 aI 19 (.bin .eql (.t 17) (.t 18))]
abbrev zz28_r4:List AI:=[
 aI 4 (.mv true (.c (.bool true)))]
abbrev zz28_r5:List AI:=[
 aM 11 5,
 aI 12 (.bin .add (.t 11) (.c (.int .i64 1))),
 aN 5 12]
abbrev zz28_l0:ACode:=.seq (.seq (.reg false zz28_r2) (.cond (.t 10) (.skip) (.exit 0))) (.seq (.block 1 (.seq (.reg false zz28_r3) (.cond (.t 19) (.seq (.reg false zz28_r4) (.ret)) (.skip)))) (.reg false zz28_r5))
abbrev zz28_r6:List AI:=[
 aI 4 (.mv true (.c (.bool false)))]
abbrev zz28_c:ACode:=.seq (.reg false zz28_r0) (.seq (.seq (.reg false zz28_r1) (.block 0 (.loop zz28_l0))) (.seq (.reg false zz28_r6) (.ret)))
def zz28_F:AFunc:=⟨20,[.tmp 4],zz28_c⟩
theorem zz28_cp:zf Try.prog [] f_zz28=some zz28_F:=by kernel_rfl
abbrev zz14_r0:List AI:=[
 aI 2 (.box 2 (.t 0)),
 aI 4 (.alloc [.nilS,(.int .i64 0),(.int .i64 0)])]
abbrev zz14_r1:List AI:=[
 aM 7 1,
 aI 8 (.call (.c (.fn f_zz8)) [(.t 7)] 0),
 aN 5 8]
abbrev zz14_r2:List AI:=[
 aM 9 5,
 aI 10 (.not (.t 9))]
abbrev zz14_r3:List AI:=[
 aI 11 (.load true 2 (.t 2) .any),
 aI 12 (.build [.nilS,(.int .i64 0),(.int .i64 0)] [(0,2,(.t 11)),(2,1,(.c (.int .i64 1)))]),
 aS (.store 3 (.t 4) (.t 12) .any)]
abbrev zz14_r4:List AI:=[
 aI 13 (.load true 2 (.t 2) .any),
 aM 14 1,
 aI 15 (.call (.c (.fn f_zz28)) [(.t 13),(.t 14)] 0),
 aN 6 15]
abbrev zz14_r5:List AI:=[
 aM 16 6]
abbrev zz14_r6:List AI:=[
 aI 17 (.load true 2 (.t 2) .any),
 aI 18 (.build [.nilS,(.int .i64 0),(.int .i64 0)] [(0,2,(.t 17))]),
 aS (.store 3 (.t 4) (.t 18) .any)]
abbrev zz14_r7:List AI:=[
 aI 19 (.faddr 0 (.t 2)),
 aI 20 (.load false 1 (.t 19) .any),
 aI 21 (.len false (.t 20)),
 aI 22 (.faddr 1 (.t 2)),
 aI 23 (.load false 1 (.t 22) .any),
 aI 24 (.bin .geq (.t 21) (.t 23))]
abbrev zz14_r8:List AI:=[
 aI 25 (.load true 2 (.t 2) .any),
 aI 26 (.build [.nilS,(.int .i64 0),(.int .i64 0)] [(0,2,(.t 25)),(2,1,(.c (.int .i64 13)))]),
 aS (.store 3 (.t 4) (.t 26) .any)]
abbrev zz14_r9:List AI:=[
 aI 27 (.mkslice 1 0 (.int .i64 0) []),
 aI 28 (.faddr 0 (.t 2)),
 aI 29 (.load false 1 (.t 28) (.site 2)),
 aI 30 (.append 1 8 (.t 27) (.t 29)),
 aM 31 1,
 aI 32 (.mkslice 1 1 (.int .i64 0) [(0,(.t 31))]),
 aI 33 (.append 1 8 (.t 30) (.t 32)),
 aI 34 (.faddr 1 (.t 2)),
 aI 35 (.load false 1 (.t 34) (.site 2)),
 aI 36 (.build [.nilS,(.int .i64 0)] [(0,1,(.t 33)),(1,1,(.t 35))]),
 aI 37 (.build [.nilS,(.int .i64 0),(.int .i64 0)] [(0,2,(.t 36))]),
 aS (.store 3 (.t 4) (.t 37) (.site 4))]
abbrev zz14_c:ACode:=.seq (.reg false zz14_r0) (.seq (.reg false zz14_r1) (.seq (.seq (.reg false zz14_r2) (.cond (.t 10) (.seq (.reg false zz14_r3) (.ret)) (.skip))) (.seq (.reg false zz14_r4) (.seq (.seq (.reg false zz14_r5) (.cond (.t 16) (.seq (.reg false zz14_r6) (.ret)) (.skip))) (.seq (.seq (.reg false zz14_r7) (.cond (.t 24) (.seq (.reg false zz14_r8) (.ret)) (.skip))) (.seq (.reg true zz14_r9) (.ret)))))))
def zz14_F:AFunc:=⟨38,[.cell 4 true 3],zz14_c⟩
theorem zz14_cp:zf Try.prog [] f_zz14=some zz14_F:=by kernel_rfl
-- loop 0: [1, 2, 4, 6, 7]
abbrev zz13_r0:List AI:=[
 aI 2 (.box 2 (.t 0)),
 aI 4 (.alloc [.nilS,(.int .i64 0),(.int .i64 0)])]
abbrev zz13_r1:List AI:=[
 aM 8 1,
 aI 9 (.call (.c (.fn f_zz8)) [(.t 8)] 0),
 aN 5 9]
abbrev zz13_r2:List AI:=[
 aM 10 5,
 aI 11 (.not (.t 10))]
abbrev zz13_r3:List AI:=[
 aI 12 (.load true 2 (.t 2) .any),
 aI 13 (.build [.nilS,(.int .i64 0),(.int .i64 0)] [(0,2,(.t 12)),(2,1,(.c (.int .i64 1)))]),
 aS (.store 3 (.t 4) (.t 13) .any)]
abbrev zz13_r4:List AI:=[
 aI 14 (.faddr 1 (.t 2)),
 aI 15 (.load false 1 (.t 14) .any),
 aI 16 (.build [.nilS,(.int .i64 0)] [(1,1,(.t 15))]),
 aI 6 (.alloc [.nilS,(.int .i64 0)]),
 aS (.store 2 (.t 6) (.t 16) .any)]
abbrev zz13_r5:List AI:=[
 aI 7 (.mv true (.c (.int .i64 0)))]
abbrev zz13_r6:List AI:=[
 aM 17 7,
 aI 18 (.faddr 0 (.t 2)),
 aI 19 (.load false 1 (.t 18) .any),
 aI 20 (.len false (.t 19)),
 aI 21 (.bin .lss (.t 17) (.t 20))]
abbrev zz13_r7:List AI:=[
 aI 24 (.faddr 0 (.t 2)),
 aI 25 (.load false 1 (.t 24) .any),
 aM 26 7,
 aI 27 (.iaddr 1 (.t 25) (.t 26)),
 aI 28 (.load false 1 (.t 27) .any),
 aM 29 1,
 aI 30 (.bin .neq (.t 28) (.t 29))]
abbrev zz13_r8:List AI:=[
 aI 31 (.faddr 0 (.t 6)),
 aI 32 (.load false 1 (.t 31) (.site 6)),
 aI 33 (.faddr 0 (.t 2)),
 aI 34 (.load false 1 (.t 33) (.site 2)),
 aM 35 7,
 aI 36 (.iaddr 1 (.t 34) (.t 35)),
 aI 37 (.load false 1 (.t 36) .foreign),
 aI 38 (.mkslice 1 1 (.int .i64 0) [(0,(.t 37))]),
 aI 39 (.appG 1 8 [(.int .i64 0)] (.t 32) (.t 38)),
 aI 40 (.faddr 0 (.t 6)),
 aS (.store 1 (.t 40) (.t 39) (.site 6))]
abbrev zz13_r9:List AI:=[
 aM 22 7,
 aI 23 (.bin .add (.t 22) (.c (.int .i64 1))),
 aN 7 23]
abbrev zz13_l0:ACode:=.seq (.seq (.reg false zz13_r6) (.cond (.t 21) (.skip) (.exit 0))) (.seq (.block 1 (.seq (.reg false zz13_r7) (.cond (.t 30) (.reg true zz13_r8) (.skip)))) (.reg false zz13_r9))
abbrev zz13_r10:List AI:=[
 aI 41 (.load true 2 (.t 6) .any),
 aI 42 (.build [.nilS,(.int .i64 0),(.int .i64 0)] [(0,2,(.t 41))]),
 aS (.store 3 (.t 4) (.t 42) .any)]
abbrev zz13_c:ACode:=.seq (.reg false zz13_r0) (.seq (.reg false zz13_r1) (.seq (.seq (.reg false zz13_r2) (.cond (.t 11) (.seq (.reg false zz13_r3) (.ret)) (.skip))) (.seq (.reg false zz13_r4) (.seq (.seq (.reg false zz13_r5) (.block 0 (.loop zz13_l0))) (.seq (.reg false zz13_r10) (.ret))))))
def zz13_F:AFunc:=⟨43,[.cell 4 true 3],zz13_c⟩
theorem zz13_cp:zf Try.prog [39] f_zz13=some zz13_F:=by kernel_rfl
-- loop 0: [1, 2, 3, 4, 8, 9, 10]
-- loop 1: [2, 3, 4, 8, 13, 14, 15, 16]
-- loop 2: [2, 3, 4, 8, 13, 14]
-- loop 3: [2, 3, 4, 8, 13, 18]
abbrev zz30_r0:List AI:=[
 aI 4 (.box 2 (.t 0)),
 aI 8 (.alloc [.nilS,(.int .i64 0),.nilS,(.bool false),(.int .i64 0)])]
abbrev zz30_r1:List AI:=[
 aI 9 (.mv true (.c (.bool false)))]
abbrev zz30_r2:List AI:=[
 aI 10 (.mv true (.c (.int .i64 0)))]
abbrev zz30_r3:List AI:=[
 aM 19 10,
 aM 20 3,
 aI 21 (.len false (.t 20)),
 aI 22 (.bin .lss (.t 19) (.t 21))]
abbrev zz30_r4:List AI:=[
 aM 25 9,
 aM 26 25,
 aF 27 26 (.mv false (.t 3)),
 aF 28 26 (.mv false (.t 10)),
 aF 29 26 (.iaddr 1 (.t 27) (.t 28)),
 aF 30 26 (.load false 1 (.t 29) .any),
 aF 31 26 (.len false (.t 30)),
 aF 32 26 (.bin .gtr (.t 31) (.c (.int .i64 0))),
 aI 33 (.pick (.t 26) (.c (.bool true)) (.t 32)),
 aN 9 33]
abbrev zz30_r5:List AI:=[
 aM 23 10,
 aI 24 (.bin .add (.t 23) (.c (.int .i64 1))),
 aN 10 24]
abbrev zz30_l0:ACode:=.seq (.seq (.reg false zz30_r3) (.cond (.t 22) (.skip) (.exit 0))) (.seq (.block 1 (.reg false zz30_r4)) (.reg false zz30_r5))
abbrev zz30_r6:List AI:=[
 aM 34 2,
 aI 35 (.call (.c (.fn f_zz8)) [(.t 34)] 0),
 aN 11 35]
abbrev zz30_r7:List AI:=[
 aM 36 3,
 aI 37 (.len false (.t 36)),
 aM 38 1,
 aI 39 (.len false (.t 38)),
 aI 40 (.bin .neq (.t 37) (.t 39)),
 aM 41 40,
 aF 42 41 (.mv false (.t 9)),
 aF 43 41 (.not (.t 42)),
 aI 44 (.pick (.t 41) (.c (.bool true)) (.t 43)),
 aM 45 44,
 aF 46 45 (.mv false (.t 11)),
 aF 47 45 (.not (.t 46)),
 aI 48 (.pick (.t 45) (.c (.bool true)) (.t 47))]
abbrev zz30_r8:List AI:=[
 aI 49 (.load true 2 (.t 4) .any),
 aM 50 1,
 aI 51 (.build [.nilS,(.int .i64 0),.nilS,(.bool false),(.int .i64 0)] [(0,2,(.t 49)),(2,1,(.t 50)),(4,1,(.c (.int .i64 1)))]),
 aS (.store 5 (.t 8) (.t 51) .any)]
abbrev zz30_r9:List AI:=[
 aI 52 (.load true 2 (.t 4) .any),
 aM 53 2,
 aI 54 (.call (.c (.fn f_zz28)) [(.t 52),(.t 53)] 0),
 aN 12 54]
abbrev zz30_r10:List AI:=[
 aM 55 12]
abbrev zz30_r11:List AI:=[
 aI 56 (.load true 2 (.t 4) .any),
 aM 57 1,
 aI 58 (.build [.nilS,(.int .i64 0),.nilS,(.bool false),(.int .i64 0)] [(0,2,(.t 56)),(2,1,(.t 57)),(4,1,(.c (.int .i64 9)))]),
 aS (.store 5 (.t 8) (.t 58) .any)]
abbrev zz30_r12:List AI:=[
 aI 59 (.mkG 2 0 (.agg [.nilS,.nilS]) []),
 aM 60 1,
 aI 61 (.appG 2 48 [.nilS,.nilS] (.t 59) (.t 60)),
 aN 13 61]
abbrev zz30_r13:List AI:=[
 aI 14 (.mv true (.c (.int .i64 0)))]
abbrev zz30_r14:List AI:=[
 aM 62 14,
 aM 63 3,
 aI 64 (.len false (.t 63)),
 aI 65 (.bin .lss (.t 62) (.t 64))]
abbrev zz30_r15:List AI:=[
 aM 68 3,
 aM 69 14,
 aI 70 (.iaddr 1 (.t 68) (.t 69)),
 aI 71 (.load false 1 (.t 70) .any),
 aI 72 (.len false (.t 71)),
 aI 73 (.bin .gtr (.t 72) (.c (.int .i64 0)))]
abbrev zz30_r16:List AI:=[
 aM 74 13,
 aM 75 14,
 aI 76 (.iaddr 2 (.t 74) (.t 75)),
 aI 77 (.load true 2 (.t 76) .foreign),
 aM 78 2,
 aM 79 3,
 aM 80 14,
 aI 81 (.iaddr 1 (.t 79) (.t 80)),
 aI 82 (.load false 1 (.t 81) .foreign),
 aI 15 (.alloc [.nilS,.nilS,(.int .i64 0)]),
 aI 83 (.call (.c (.fn f_zz10)) [(.t 77),(.t 78),(.t 82)] 1),
 aS (.store 3 (.t 15) (.t 83) (.site 15))]
abbrev zz30_r17:List AI:=[
 aI 84 (.faddr 2 (.t 15)),
 aI 85 (.load false 1 (.t 84) .any),
 aI 86 (.bin .neq (.t 85) (.c (.int .i64 0)))]
abbrev zz30_r18:List AI:=[
 aI 16 (.mv true (.c (.int .i64 0)))]
abbrev zz30_r19:List AI:=[
 aM 87 16,
 aM 88 14,
 aI 89 (.bin .lss (.t 87) (.t 88))]
abbrev zz30_r20:List AI:=[
 aM 92 3,
 aM 93 16,
 aI 94 (.iaddr 1 (.t 92) (.t 93)),
 aI 95 (.load false 1 (.t 94) .any),
 aI 96 (.len false (.t 95)),
 aI 97 (.bin .gtr (.t 96) (.c (.int .i64 0)))]
abbrev zz30_r21:List AI:=[
 aM 98 13,
 aM 99 16,
 aM 100 13,
 aM 101 16,
 aI 102 (.iaddr 2 (.t 100) (.t 101)),
 aI 103 (.load true 2 (.t 102) .any),
 aM 104 2,
 aI 105 (.call (.c (.fn f_zz12)) [(.t 103),(.t 104),(.c (.bool false))] 0),
 aI 106 (.field true 0 2 (.t 105)),
 aI 107 (.iaddr 2 (.t 98) (.t 99)),
 aS (.store 2 (.t 107) (.t 106) .any)]
abbrev zz30_r22:List AI:=[
 aM 90 16,
 aI 91 (.bin .add (.t 90) (.c (.int .i64 1))),
 aN 16 91]
abbrev zz30_l1:ACode:=.seq (.seq (.reg false zz30_r19) (.cond (.t 89) (.skip) (.exit 4))) (.seq (.block 5 (.seq (.reg false zz30_r20) (.cond (.t 97) (.reg false zz30_r21) (.skip)))) (.reg false zz30_r22))
abbrev zz30_r23:List AI:=[
 aI 108 (.load true 2 (.t 4) .any),
 aM 109 13,
 aI 110 (.faddr 2 (.t 15)),
 aI 111 (.load false 1 (.t 110) .any),
 aI 112 (.build [.nilS,(.int .i64 0),.nilS,(.bool false),(.int .i64 0)] [(0,2,(.t 108)),(2,1,(.t 109)),(4,1,(.t 111))]),
 aS (.store 5 (.t 8) (.t 112) .any)]
abbrev zz30_b0:ACode:=.seq (.seq (.reg false zz30_r18) (.block 4 (.loop zz30_l1))) (.seq (.reg false zz30_r23) (.ret))
abbrev zz30_r24:List AI:=[
 aM 113 13,
 aM 114 14,
 aI 115 (.faddr 0 (.t 15)),
 aI 116 (.load true 2 (.t 115) .any),
 aI 117 (.iaddr 2 (.t 113) (.t 114)),
 aS (.store 2 (.t 117) (.t 116) .any)]
abbrev zz30_b1:ACode:=.seq (.reg true zz30_r16) (.seq (.seq (.reg false zz30_r17) (.cond (.t 86) (zz30_b0) (.skip))) (.reg false zz30_r24))
abbrev zz30_r25:List AI:=[
 aM 66 14,
 aI 67 (.bin .add (.t 66) (.c (.int .i64 1))),
 aN 14 67]
abbrev zz30_l2:ACode:=.seq (.seq (.reg false zz30_r14) (.cond (.t 65) (.skip) (.exit 2))) (.seq (.block 3 (.seq (.reg false zz30_r15) (.cond (.t 73) (zz30_b1) (.skip)))) (.reg false zz30_r25))
abbrev zz30_r26:List AI:=[
 aI 118 (.load true 2 (.t 4) .any),
 aM 119 2,
 aI 120 (.call (.c (.fn f_zz14)) [(.t 118),(.t 119)] 0),
 aI 17 (.alloc [.nilS,(.int .i64 0),(.int .i64 0)]),
 aS (.store 3 (.t 17) (.t 120) .any)]
abbrev zz30_r27:List AI:=[
 aI 121 (.faddr 2 (.t 17)),
 aI 122 (.load false 1 (.t 121) .any),
 aI 123 (.bin .neq (.t 122) (.c (.int .i64 0)))]
abbrev zz30_r28:List AI:=[
 aI 124 (.load true 2 (.t 4) .any),
 aM 125 13,
 aI 126 (.faddr 2 (.t 17)),
 aI 127 (.load false 1 (.t 126) .any),
 aI 128 (.build [.nilS,(.int .i64 0),.nilS,(.bool false),(.int .i64 0)] [(0,2,(.t 124)),(2,1,(.t 125)),(4,1,(.t 127))]),
 aS (.store 5 (.t 8) (.t 128) .any)]
abbrev zz30_r29:List AI:=[
 aI 18 (.mv true (.c (.int .i64 0)))]
abbrev zz30_r30:List AI:=[
 aM 129 18,
 aM 130 3,
 aI 131 (.len false (.t 130)),
 aI 132 (.bin .lss (.t 129) (.t 131))]
abbrev zz30_r31:List AI:=[
 aM 135 3,
 aM 136 18,
 aI 137 (.iaddr 1 (.t 135) (.t 136)),
 aI 138 (.load false 1 (.t 137) .any),
 aI 139 (.len false (.t 138)),
 aI 140 (.bin .gtr (.t 139) (.c (.int .i64 0)))]
abbrev zz30_r32:List AI:=[
 aM 141 13,
 aM 142 18,
 aM 143 13,
 aM 144 18,
 aI 145 (.iaddr 2 (.t 143) (.t 144)),
 aI 146 (.load true 2 (.t 145) .any),
 aM 147 2,
 aI 148 (.call (.c (.fn f_zz12)) [(.t 146),(.t 147),(.c (.bool true))] 0),
 aI 149 (.field true 0 2 (.t 148)),
 aI 150 (.iaddr 2 (.t 141) (.t 142)),
 aS (.store 2 (.t 150) (.t 149) .any)]
abbrev zz30_r33:List AI:=[
 aM 133 18,
 aI 134 (.bin .add (.t 133) (.c (.int .i64 1))),
 aN 18 134]
abbrev zz30_l3:ACode:=.seq (.seq (.reg false zz30_r30) (.cond (.t 132) (.skip) (.exit 6))) (.seq (.block 7 (.seq (.reg false zz30_r31) (.cond (.t 140) (.reg false zz30_r32) (.skip)))) (.reg false zz30_r33))
abbrev zz30_r34:List AI:=[
 aI 151 (.load true 2 (.t 4) .any),
 aM 152 13,
 aI 153 (.build [.nilS,(.int .i64 0),.nilS,(.bool false),(.int .i64 0)] [(0,2,(.t 151)),(2,1,(.t 152)),(3,1,(.c (.bool true)))]),
 aS (.store 5 (.t 8) (.t 153) .any)]
abbrev zz30_c:ACode:=.seq (.reg false zz30_r0) (.seq (.reg false zz30_r1) (.seq (.seq (.reg false zz30_r2) (.block 0 (.loop zz30_l0))) (.seq (.reg false zz30_r6) (.seq (.seq (.reg false zz30_r7) (.cond (.t 48) (.seq (.reg false zz30_r8) (.ret)) (.skip))) (.seq (.reg false zz30_r9) (.seq (.seq (.reg false zz30_r10) (.cond (.t 55) (.seq (.reg false zz30_r11) (.ret)) (.skip))) (.seq (.reg false zz30_r12) (.seq (.seq (.reg false zz30_r13) (.block 2 (.loop zz30_l2))) (.seq (.reg false zz30_r26) (.seq (.seq (.reg false zz30_r27) (.cond (.t 123) (.seq (.reg false zz30_r28) (.ret)) (.skip))) (.seq (.seq (.reg false zz30_r29) (.block 6 (.loop zz30_l3))) (.seq (.reg false zz30_r34) (.ret)))))))))))))
def zz30_F:AFunc:=⟨154,[.cell 8 true 5],zz30_c⟩
theorem zz30_cp:zf Try.prog [59,61] f_zz30=some zz30_F:=by kernel_rfl
-- loop 0: [1, 2, 4, 5, 6, 7, 8, 9]
-- loop 1: [1, 2, 4, 5, 6]
abbrev zz15_r0:List AI:=[
 aI 2 (.box 2 (.t 0)),
 aI 4 (.alloc [.nilS,(.int .i64 0),.nilS,(.bool false),(.int .i64 0)])]
abbrev zz15_r1:List AI:=[
 aI 5 (.mv true (.c .nilS))]
abbrev zz15_r2:List AI:=[
 aI 6 (.mv true (.c (.int .i64 0)))]
abbrev zz15_r3:List AI:=[
 aM 11 6,
 aM 12 1,
 aI 13 (.len false (.t 12)),
 aI 14 (.bin .lss (.t 11) (.t 13))]
abbrev zz15_r4:List AI:=[
 aM 17 1,
 aM 18 6,
 aI 19 (.iaddr 2 (.t 17) (.t 18)),
 aI 20 (.load true 2 (.t 19) .any),
 aI 7 (.alloc [.nilS,.nilS]),
 aS (.store 2 (.t 7) (.t 20) .any)]
abbrev zz15_r5:List AI:=[
 aI 21 (.load true 2 (.t 7) .any),
 aI 22 (.call (.c (.fn f_zz9)) [(.t 21)] 0),
 aN 8 22]
abbrev zz15_r6:List AI:=[
 aI 9 (.mv true (.c (.int .i64 0)))]
abbrev zz15_r7:List AI:=[
 aM 23 9,
 aM 24 8,
 aI 25 (.len false (.t 24)),
 aI 26 (.bin .lss (.t 23) (.t 25))]
abbrev zz15_r8:List AI:=[
 aI 29 (.load true 2 (.t 2) (.site 2)),
 aM 30 8,
 aM 31 9,
 aI 32 (.iaddr 1 (.t 30) (.t 31)),
 aI 33 (.load false 1 (.t 32) .foreign),
 aI 34 (.call (.c (.fn f_zz28)) [(.t 29),(.t 33)] 1),
 aN 10 34]
abbrev zz15_r9:List AI:=[
 aI 35 (.load true 2 (.t 7) (.site 7)),
 aM 36 8,
 aM 37 9,
 aI 38 (.iaddr 1 (.t 36) (.t 37)),
 aI 39 (.load false 1 (.t 38) .foreign),
 aM 40 10,
 aI 41 (.call (.c (.fn f_zz12)) [(.t 35),(.t 39),(.t 40)] 1),
 aI 42 (.field true 0 2 (.t 41)),
 aS (.store 2 (.t 7) (.t 42) (.site 7))]
abbrev zz15_r10:List AI:=[
 aM 27 9,
 aI 28 (.bin .add (.t 27) (.c (.int .i64 1))),
 aN 9 28]
abbrev zz15_l0:ACode:=.seq (.seq (.reg false zz15_r7) (.cond (.t 26) (.skip) (.exit 2))) (.seq (.block 3 (.seq (.reg true zz15_r8) (.reg true zz15_r9))) (.reg false zz15_r10))
abbrev zz15_r11:List AI:=[
 aN 43 5,
 aI 44 (.load true 2 (.t 7) .any),
 aI 45 (.mkslice 2 1 (.agg [.nilS,.nilS]) [(0,(.t 44))]),
 aI 46 (.appG 2 48 [.nilS,.nilS] (.t 43) (.t 45)),
 aN 5 46]
abbrev zz15_r12:List AI:=[
 aM 15 6,
 aI 16 (.bin .add (.t 15) (.c (.int .i64 1))),
 aN 6 16]
abbrev zz15_l1:ACode:=.seq (.seq (.reg false zz15_r3) (.cond (.t 14) (.skip) (.exit 0))) (.seq (.block 1 (.seq (.reg false zz15_r4) (.seq (.reg false zz15_r5) (.seq (.seq (.reg false zz15_r6) (.block 2 (.loop zz15_l0))) (.reg false zz15_r11))))) (.reg false zz15_r12))
abbrev zz15_r13:List AI:=[
 aI 47 (.faddr 1 (.t 2)),
 aI 48 (.load false 1 (.t 47) .any),
 aI 49 (.build [.nilS,(.int .i64 0)] [(1,1,(.t 48))]),
 aM 50 5,
 aI 51 (.build [.nilS,(.int .i64 0),.nilS,(.bool false),(.int .i64 0)] [(0,2,(.t 49)),(2,1,(.t 50))]),
 aS (.store 5 (.t 4) (.t 51) .any)]
abbrev zz15_c:ACode:=.seq (.reg false zz15_r0) (.seq (.reg false zz15_r1) (.seq (.seq (.reg false zz15_r2) (.block 0 (.loop zz15_l1))) (.seq (.reg false zz15_r13) (.ret))))
def zz15_F:AFunc:=⟨52,[.cell 4 true 5],zz15_c⟩
theorem zz15_cp:zf Try.prog [46] f_zz15=some zz15_F:=by kernel_rfl
-- loop 0: [0, 3, 28, 29, 30]
abbrev zz22_r0:List AI:=[
 aI 3 (.box 2 (.t 1)),
 aI 4 (.mv true (.c (.bool false)))]
abbrev zz22_r1:List AI:=[
 aM 14 0,
 aI 15 (.call (.c (.fn f_zz34)) [(.t 14)] 0),
 aM 13 15,
 aI 16 (.ext (.t 13) 0),
 aI 17 (.ext (.t 13) 1),
 aN 5 16,
 aN 6 17]
abbrev zz22_r2:List AI:=[
 aM 18 6,
 aI 19 (.bin .neq (.t 18) (.c (.int .i64 0))),
 aM 20 19,
 aF 21 20 (.mv false (.t 5)),
 aF 22 20 (.load true 2 (.t 3) .any),
 aF 23 20 (.call (.c (.fn f_zz9)) [(.t 22)] 0),
 aF 24 20 (.call (.c (.fn f_zz7)) [(.t 21),(.t 23)] 0),
 aF 25 20 (.not (.t 24)),
 aI 26 (.pick (.t 20) (.c (.bool true)) (.t 25))]
abbrev zz22_r3:List AI:=[
 aI 4 (.mv true (.c (.bool false)))]
abbrev zz22_r4:List AI:=[
 aI 27 (.faddr 0 (.t 3)),
 aI 28 (.load false 1 (.t 27) .any),
 aI 29 (.len false (.t 28)),
 aI 30 (.mv false (.c (.int .i64 0)))]
abbrev zz22_r5:List AI:=[
 aI 31 (.bin .lss (.t 30) (.t 29))]
abbrev zz22_r6:List AI:=[
 aM 32 30,
 aI 33 (.iaddr 2 (.t 28) (.t 30)),
 aI 34 (.load true 2 (.t 33) .any),
 aI 8 (.alloc [(.int .i64 0),(.str [])]),
 aN 7 32,
 aS (.store 2 (.t 8) (.t 34) .any)]
abbrev zz22_r7:List AI:=[
 aM 35 0,
 aM 36 7,
 aI 37 (.faddr 0 (.t 8)),
 aI 38 (.load false 1 (.t 37) .any),
 aI 39 (.faddr 1 (.t 8)),
 aI 40 (.load false 1 (.t 39) .any),
 aI 41 (.call (.c (.fn f_zz27)) [(.t 35),(.t 36),(.t 38),(.t 40)] 0),
 aI 42 (.not (.t 41))]
abbrev zz22_r8:List AI:=[
 aI 4 (.mv true (.c (.bool false)))]
abbrev zz22_r9:List AI:=[
 aI 43 (.bin .add (.t 30) (.c (.int .i64 1))),
 aM 30 43]
abbrev zz22_l0:ACode:=.seq (.reg false zz22_r5) (.seq (.cond (.t 31) (.skip) (.exit 0)) (.seq (.block 1 (.seq (.reg false zz22_r6) (.seq (.reg false zz22_r7) (.cond (.t 42) (.seq (.reg false zz22_r8) (.ret)) (.skip))))) (.reg false zz22_r9)))
abbrev zz22_r10:List AI:=[
 aM 45 0,
 aI 46 (.call (.c (.fn f_zz60)) [(.t 45),(.c (.int .i64 (-1)))] 0),
 aM 44 46,
 aI 47 (.ext (.t 44) 0),
 aI 48 (.ext (.t 44) 1),
 aI 9 (.alloc [(.int .i64 0),(.str [])]),
 aS (.store 2 (.t 9) (.t 47) .any),
 aN 10 48]
abbrev zz22_r11:List AI:=[
 aM 50 0,
 aI 51 (.faddr 0 (.t 3)),
 aI 52 (.load false 1 (.t 51) .any),
 aI 53 (.len false (.t 52)),
 aI 54 (.call (.c (.fn f_zz60)) [(.t 50),(.t 53)] 0),
 aM 49 54,
 aI 55 (.ext (.t 49) 0),
 aI 56 (.ext (.t 49) 1),
 aI 11 (.alloc [(.int .i64 0),(.str [])]),
 aS (.store 2 (.t 11) (.t 55) .any),
 aN 12 56]
abbrev zz22_r12:List AI:=[
 aM 57 10,
 aI 58 (.bin .eql (.t 57) (.c (.int .i64 1))),
 aM 59 58,
 aT 60 59 (.mv false (.t 12)),
 aT 61 59 (.bin .eql (.t 60) (.c (.int .i64 1))),
 aI 62 (.pick (.t 59) (.t 61) (.c (.bool false))),
 aN 4 62]
abbrev zz22_c:ACode:=.seq (.reg false zz22_r0) (.seq (.reg false zz22_r1) (.seq (.seq (.reg false zz22_r2) (.cond (.t 26) (.seq (.reg false zz22_r3) (.ret)) (.skip))) (.seq (.seq (.reg false zz22_r4) (.block 0 (.loop zz22_l0))) (.seq (.reg false zz22_r10) (.seq (.reg false zz22_r11) (.seq (.reg false zz22_r12) (.ret)))))))
def zz22_F:AFunc:=⟨63,[.tmp 4],zz22_c⟩
theorem zz22_cp:zf Try.prog [] f_zz22=some zz22_F:=by kernel_rfl
-- loop 0: [3, 5, 32, 33, 34]
abbrev zz5_r0:List AI:=[
 aI 2 (.mv true (.c (.bool false)))]
abbrev zz5_r1:List AI:=[
 aI 18 (.call (.c (.fn f_zz18)) [] 0),
 aM 17 18,
 aI 19 (.ext (.t 17) 0),
 aI 20 (.ext (.t 17) 1),
 aN 3 19,
 aN 4 20]
abbrev zz5_r2:List AI:=[
 aM 21 4,
 aI 22 (.not (.t 21))]
abbrev zz5_r3:List AI:=[
 aI 2 (.mv true (.c (.bool false)))]
abbrev zz5_r4:List AI:=[
 aM 23 0,
 aI 24 (.len false (.t 23)),
 aI 25 (.bin .gtr (.t 24) (.c (.int .i64 30)))]
abbrev zz5_r5:List AI:=[
 aI 26 (.call (.c (.fn f_zz11)) [] 0),
 aN 2 26]
abbrev zz5_r6:List AI:=[
 aI 27 (.build [.nilS,(.int .i64 0)] [(1,1,(.c (.int .i64 4)))]),
 aI 28 (.call (.c (.fn f_zz29)) [(.c (.int .i64 2))] 0),
 aI 29 (.call (.c (.fn f_zz29)) [(.c (.int .i64 2))] 0),
 aI 30 (.mkG 2 2 (.agg [.nilS,.nilS]) [(0,(.t 28)),(1,(.t 29))]),
 aI 31 (.build [.nilS,(.int .i64 0),.nilS,(.bool false),(.int .i64 0)] [(0,2,(.t 27)),(2,1,(.t 30))]),
 aI 5 (.alloc [.nilS,(.int .i64 0),.nilS,(.bool false),(.int .i64 0)]),
 aS (.store 5 (.t 5) (.t 31) .any)]
abbrev zz5_r7:List AI:=[
 aM 32 0,
 aI 33 (.len false (.t 32)),
 aI 34 (.mv false (.c (.int .i64 0)))]
abbrev zz5_r8:List AI:=[
 aI 35 (.bin .lss (.t 34) (.t 33))]
abbrev zz5_r9:List AI:=[
 aI 36 (.iaddr 3 (.t 32) (.t 34)),
 aI 37 (.load true 3 (.t 36) .any),
 aI 7 (.alloc [(.int .i64 0),(.int .i64 0),.nilS]),
 aS (.store 3 (.t 7) (.t 37) .any)]
abbrev zz5_r10:List AI:=[
 aI 38 (.faddr 0 (.t 7)),
 aI 39 (.load false 1 (.t 38) .any)]
abbrev zz5_r11:List AI:=[
 aI 41 (.bin .eql (.t 39) (.c (.int .i64 0))),
 aN 40 41]
abbrev zz5_r12:List AI:=[
 aM 43 3,
 aI 44 (.nilck (.t 43)),
 aI 45 (.faddr 3 (.t 44)),
 aI 46 (.load false 1 (.t 45) .foreign),
 aM 47 3,
 aI 48 (.nilck (.t 47)),
 aI 49 (.faddr 4 (.t 48)),
 aI 50 (.load false 1 (.t 49) .foreign),
 aI 51 (.faddr 1 (.t 7)),
 aI 52 (.load false 1 (.t 51) (.site 7)),
 aI 53 (.faddr 2 (.t 7)),
 aI 54 (.load false 1 (.t 53) (.site 7)),
 aI 55 (.call (.c (.fn f_zz72)) [(.t 46),(.t 50),(.t 52),(.t 54)] 2),
 aM 42 55,
 aI 56 (.ext (.t 42) 0),
 aI 57 (.ext (.t 42) 1),
 aN 8 56,
 aN 9 57]
abbrev zz5_r13:List AI:=[
 aI 58 (.faddr 0 (.t 5)),
 aI 59 (.load true 2 (.t 58) .any),
 aI 60 (.faddr 2 (.t 5)),
 aI 61 (.load false 1 (.t 60) .any),
 aI 62 (.faddr 1 (.t 7)),
 aI 63 (.load false 1 (.t 62) .any),
 aI 64 (.faddr 2 (.t 7)),
 aI 65 (.load false 1 (.t 64) .any),
 aI 66 (.call (.c (.fn f_zz30)) [(.t 59),(.t 61),(.t 63),(.t 65)] 0),
 aS (.store 5 (.t 5) (.t 66) .any)]
abbrev zz5_r14:List AI:=[
 aM 67 8,
 aI 68 (.faddr 3 (.t 5)),
 aI 69 (.load false 1 (.t 68) .any),
 aI 70 (.eqb true (.t 67) (.t 69)),
 aM 71 70,
 aF 72 71 (.mv false (.t 9)),
 aF 73 71 (.faddr 4 (.t 5)),
 aF 74 71 (.load false 1 (.t 73) .any),
 aF 75 71 (.bin .neq (.t 72) (.t 74)),
 aI 76 (.pick (.t 71) (.c (.bool true)) (.t 75))]
abbrev zz5_r15:List AI:=[
 aI 2 (.mv true (.c (.bool false)))]
abbrev zz5_b0:ACode:=.seq (.reg true zz5_r12) (.seq (.reg false zz5_r13) (.seq (.reg false zz5_r14) (.cond (.t 76) (.seq (.reg false zz5_r15) (.ret)) (.skip))))
abbrev zz5_r16:List AI:=[
 aI 78 (.bin .eql (.t 39) (.c (.int .i64 1))),
 aN 77 78]
abbrev zz5_r17:List AI:=[
 aI 79 (.faddr 0 (.t 5)),
 aI 80 (.load true 2 (.t 79) .any),
 aI 81 (.faddr 2 (.t 5)),
 aI 82 (.load false 1 (.t 81) .any),
 aI 83 (.call (.c (.fn f_zz15)) [(.t 80),(.t 82)] 0),
 aS (.store 5 (.t 5) (.t 83) .any)]
abbrev zz5_r18:List AI:=[
 aM 84 3,
 aI 85 (.nilck (.t 84)),
 aI 86 (.faddr 3 (.t 85)),
 aI 87 (.load false 1 (.t 86) .foreign),
 aM 88 3,
 aI 89 (.nilck (.t 88)),
 aI 90 (.faddr 4 (.t 89)),
 aI 91 (.load false 1 (.t 90) .foreign),
 aI 92 (.call (.c (.fn f_zz65)) [(.t 87),(.t 91)] 2),
 aI 93 (.bin .neq (.t 92) (.c (.int .i64 0)))]
abbrev zz5_r19:List AI:=[
 aI 2 (.mv true (.c (.bool false)))]
abbrev zz5_b1:ACode:=.seq (.reg false zz5_r17) (.seq (.reg true zz5_r18) (.cond (.t 93) (.seq (.reg false zz5_r19) (.ret)) (.skip)))
abbrev zz5_r20:List AI:=[
 aI 95 (.bin .eql (.t 39) (.c (.int .i64 2))),
 aN 94 95]
abbrev zz5_r21:List AI:=[
 aI 96 (.faddr 0 (.t 5)),
 aI 97 (.load true 2 (.t 96) .any),
 aI 98 (.faddr 1 (.t 7)),
 aI 99 (.load false 1 (.t 98) .any),
 aI 100 (.call (.c (.fn f_zz14)) [(.t 97),(.t 99)] 0),
 aI 10 (.alloc [.nilS,(.int .i64 0),(.int .i64 0)]),
 aS (.store 3 (.t 10) (.t 100) .any)]
abbrev zz5_r22:List AI:=[
 aI 101 (.faddr 0 (.t 10)),
 aI 102 (.load true 2 (.t 101) .any),
 aI 103 (.faddr 0 (.t 5)),
 aS (.store 2 (.t 103) (.t 102) .any)]
abbrev zz5_r23:List AI:=[
 aM 104 3,
 aI 105 (.nilck (.t 104)),
 aI 106 (.faddr 3 (.t 105)),
 aI 107 (.load false 1 (.t 106) .foreign),
 aI 108 (.faddr 1 (.t 7)),
 aI 109 (.load false 1 (.t 108) (.site 7)),
 aI 111 (.faddr 2 (.t 10)),
 aI 112 (.load false 1 (.t 111) (.site 10)),
 aI 110 (.call (.c (.fn f_zz43)) [(.t 107),(.t 109)] 2),
 aI 113 (.bin .neq (.t 110) (.t 112))]
abbrev zz5_r24:List AI:=[
 aI 2 (.mv true (.c (.bool false)))]
abbrev zz5_b2:ACode:=.seq (.reg false zz5_r21) (.seq (.reg false zz5_r22) (.seq (.reg true zz5_r23) (.cond (.t 113) (.seq (.reg false zz5_r24) (.ret)) (.skip))))
abbrev zz5_r25:List AI:=[
 aI 115 (.bin .eql (.t 39) (.c (.int .i64 3))),
 aN 114 115]
abbrev zz5_r26:List AI:=[
 aI 116 (.faddr 0 (.t 5)),
 aI 117 (.load true 2 (.t 116) .any),
 aI 118 (.faddr 1 (.t 7)),
 aI 119 (.load false 1 (.t 118) .any),
 aI 120 (.call (.c (.fn f_zz13)) [(.t 117),(.t 119)] 0),
 aI 11 (.alloc [.nilS,(.int .i64 0),(.int .i64 0)]),
 aS (.store 3 (.t 11) (.t 120) .any)]
abbrev zz5_r27:List AI:=[
 aI 121 (.faddr 0 (.t 11)),
 aI 122 (.load true 2 (.t 121) .any),
 aI 123 (.faddr 0 (.t 5)),
 aS (.store 2 (.t 123) (.t 122) .any)]
abbrev zz5_r28:List AI:=[
 aM 124 3,
 aI 125 (.nilck (.t 124)),
 aI 126 (.faddr 3 (.t 125)),
 aI 127 (.load false 1 (.t 126) .foreign),
 aI 128 (.faddr 1 (.t 7)),
 aI 129 (.load false 1 (.t 128) (.site 7)),
 aI 131 (.faddr 2 (.t 11)),
 aI 132 (.load false 1 (.t 131) (.site 11)),
 aI 130 (.call (.c (.fn f_zz42)) [(.t 127),(.t 129)] 2),
 aI 133 (.bin .neq (.t 130) (.t 132))]
abbrev zz5_r29:List AI:=[
 aI 2 (.mv true (.c (.bool false)))]
abbrev zz5_b3:ACode:=.seq (.reg false zz5_r26) (.seq (.reg false zz5_r27) (.seq (.reg true zz5_r28) (.cond (.t 133) (.seq (.reg false zz5_r29) (.ret)) (.skip))))
abbrev zz5_r30:List AI:=[
 aI 135 (.bin .eql (.t 39) (.c (.int .i64 4))),
 aN 134 135]
abbrev zz5_r31:List AI:=[
 aI 136 (.bin .eql (.t 39) (.c (.int .i64 5))),
 aN 134 136]
abbrev zz5_r32:List AI:=[
 aI 137 (.faddr 0 (.t 7)),
 aI 138 (.load false 1 (.t 137) .any),
 aI 139 (.bin .sub (.t 138) (.c (.int .i64 4))),
 aN 12 139]
abbrev zz5_r33:List AI:=[
 aI 140 (.faddr 2 (.t 7)),
 aI 141 (.load false 1 (.t 140) .any),
 aI 142 (.len false (.t 141)),
 aI 143 (.bin .gtr (.t 142) (.c (.int .i64 0)))]
abbrev zz5_r34:List AI:=[
 aI 144 (.faddr 2 (.t 5)),
 aI 145 (.load false 1 (.t 144) (.site 5)),
 aM 146 12,
 aI 147 (.iaddr 2 (.t 145) (.t 146)),
 aI 148 (.load true 2 (.t 147) .foreign),
 aI 149 (.faddr 1 (.t 7)),
 aI 150 (.load false 1 (.t 149) (.site 7)),
 aI 151 (.faddr 2 (.t 7)),
 aI 152 (.load false 1 (.t 151) (.site 7)),
 aI 153 (.iaddr 1 (.t 152) (.c (.int .i64 0))),
 aI 154 (.load false 1 (.t 153) .foreign),
 aI 13 (.alloc [.nilS,.nilS,(.int .i64 0)]),
 aI 155 (.call (.c (.fn f_zz10)) [(.t 148),(.t 150),(.t 154)] 1),
 aS (.store 3 (.t 13) (.t 155) (.site 13))]
abbrev zz5_r35:List AI:=[
 aI 156 (.mkG 2 0 (.agg [.nilS,.nilS]) []),
 aI 157 (.faddr 2 (.t 5)),
 aI 158 (.load false 1 (.t 157) .any),
 aI 159 (.appG 2 48 [.nilS,.nilS] (.t 156) (.t 158)),
 aN 14 159]
abbrev zz5_r36:List AI:=[
 aM 160 14,
 aM 161 12,
 aI 162 (.faddr 0 (.t 13)),
 aI 163 (.load true 2 (.t 162) .any),
 aI 164 (.iaddr 2 (.t 160) (.t 161)),
 aS (.store 2 (.t 164) (.t 163) .any)]
abbrev zz5_r37:List AI:=[
 aM 165 14,
 aI 166 (.faddr 2 (.t 5)),
 aS (.store 1 (.t 166) (.t 165) .any)]
abbrev zz5_r38:List AI:=[
 aM 167 3,
 aI 168 (.nilck (.t 167)),
 aI 169 (.faddr 4 (.t 168)),
 aI 170 (.load false 1 (.t 169) .foreign),
 aM 171 12,
 aI 172 (.iaddr 1 (.t 170) (.t 171)),
 aI 173 (.load false 1 (.t 172) .foreign),
 aI 174 (.faddr 1 (.t 7)),
 aI 175 (.load false 1 (.t 174) (.site 7)),
 aI 176 (.faddr 2 (.t 7)),
 aI 177 (.load false 1 (.t 176) (.site 7)),
 aI 178 (.iaddr 1 (.t 177) (.c (.int .i64 0))),
 aI 179 (.load false 1 (.t 178) .foreign),
 aI 181 (.faddr 2 (.t 13)),
 aI 182 (.load false 1 (.t 181) (.site 13)),
 aI 180 (.call (.c (.fn f_zz35)) [(.t 173),(.t 175),(.t 179)] 2),
 aI 183 (.bin .neq (.t 180) (.t 182))]
abbrev zz5_r39:List AI:=[
 aI 2 (.mv true (.c (.bool false)))]
abbrev zz5_b4:ACode:=.seq (.reg true zz5_r34) (.seq (.reg false zz5_r35) (.seq (.reg false zz5_r36) (.seq (.reg false zz5_r37) (.seq (.reg true zz5_r38) (.cond (.t 183) (.seq (.reg false zz5_r39) (.ret)) (.skip))))))
abbrev zz5_b5:ACode:=.seq (.reg false zz5_r32) (.seq (.reg false zz5_r33) (.cond (.t 143) (zz5_b4) (.skip)))
abbrev zz5_b6:ACode:=.seq (.seq (.reg false zz5_r30) (.cond (.t 134) (.skip) (.reg false zz5_r31))) (.cond (.t 134) (zz5_b5) (.skip))
abbrev zz5_b7:ACode:=.seq (.reg false zz5_r25) (.cond (.t 114) (zz5_b3) (zz5_b6))
abbrev zz5_b8:ACode:=.seq (.reg false zz5_r20) (.cond (.t 94) (zz5_b2) (zz5_b7))
abbrev zz5_b9:ACode:=.seq (.reg false zz5_r16) (.cond (.t 77) (zz5_b1) (zz5_b8))
abbrev zz5_r40:List AI:=[
 aM 185 3,
 aI 186 (.nilck (.t 185)),
 aI 187 (.faddr 3 (.t 186)),
 aI 188 (.load false 1 (.t 187) .foreign),
 aI 189 (.faddr 1 (.t 7)),
 aI 190 (.load false 1 (.t 189) (.site 7)),
 aI 191 (.call (.c (.fn f_zz33)) [(.t 188),(.t 190)] 2),
 aM 184 191,
 aI 192 (.ext (.t 184) 0),
 aI 193 (.ext (.t 184) 1),
 aN 15 192,
 aN 16 193]
abbrev zz5_r41:List AI:=[
 aM 194 16,
 aI 195 (.bin .eql (.t 194) (.c (.int .i64 0))),
 aM 196 195,
 aT 197 196 (.mv false (.t 15)),
 aT 198 196 (.faddr 0 (.t 5)),
 aT 199 196 (.load true 2 (.t 198) (.site 5)),
 aT 200 196 (.faddr 1 (.t 7)),
 aT 201 196 (.load false 1 (.t 200) (.site 7)),
 aT 202 196 (.call (.c (.fn f_zz28)) [(.t 199),(.t 201)] 1),
 aT 203 196 (.eqb true (.t 197) (.t 202)),
 aI 204 (.pick (.t 196) (.t 203) (.c (.bool false))),
 aM 205 204,
 aF 206 205 (.mv false (.t 16)),
 aF 207 205 (.bin .neq (.t 206) (.c (.int .i64 0))),
 aF 208 205 (.mv false (.t 207)),
 aT 209 208 (.mv false (.t 16)),
 aT 210 208 (.bin .neq (.t 209) (.c (.int .i64 1))),
 aF 211 205 (.pick (.t 208) (.t 210) (.c (.bool false))),
 aI 212 (.pick (.t 205) (.c (.bool true)) (.t 211)),
 aM 213 212,
 aF 214 213 (.mv false (.t 3)),
 aF 215 213 (.nilck (.t 214)),
 aF 216 213 (.faddr 4 (.t 215)),
 aF 217 213 (.load false 1 (.t 216) .foreign),
 aF 218 213 (.iaddr 1 (.t 217) (.c (.int .i64 0))),
 aF 219 213 (.load false 1 (.t 218) .foreign),
 aF 220 213 (.faddr 2 (.t 5)),
 aF 221 213 (.load false 1 (.t 220) (.site 5)),
 aF 222 213 (.iaddr 2 (.t 221) (.c (.int .i64 0))),
 aF 223 213 (.load true 2 (.t 222) .foreign),
 aF 224 213 (.call (.c (.fn f_zz22)) [(.t 219),(.t 223)] 2),
 aF 225 213 (.not (.t 224)),
 aI 226 (.pick (.t 213) (.c (.bool true)) (.t 225)),
 aM 227 226,
 aF 228 227 (.mv false (.t 3)),
 aF 229 227 (.nilck (.t 228)),
 aF 230 227 (.faddr 4 (.t 229)),
 aF 231 227 (.load false 1 (.t 230) .foreign),
 aF 232 227 (.iaddr 1 (.t 231) (.c (.int .i64 1))),
 aF 233 227 (.load false 1 (.t 232) .foreign),
 aF 234 227 (.faddr 2 (.t 5)),
 aF 235 227 (.load false 1 (.t 234) (.site 5)),
 aF 236 227 (.iaddr 2 (.t 235) (.c (.int .i64 1))),
 aF 237 227 (.load true 2 (.t 236) .foreign),
 aF 238 227 (.call (.c (.fn f_zz22)) [(.t 233),(.t 237)] 2),
 aF 239 227 (.not (.t 238)),
 aI 240 (.pick (.t 227) (.c (.bool true)) (.t 239))]
abbrev zz5_r42:List AI:=[
 aI 2 (.mv true (.c (.bool false)))]
abbrev zz5_r43:List AI:=[
 aI 241 (.bin .add (.t 34) (.c (.int .i64 1))),
 aM 34 241]
abbrev zz5_l0:ACode:=.seq (.reg false zz5_r8) (.seq (.cond (.t 35) (.skip) (.exit 0)) (.seq (.block 1 (.seq (.reg false zz5_r9) (.seq (.seq (.reg false zz5_r10) (.block 2 (.seq (.reg false zz5_r11) (.cond (.t 40) (zz5_b0) (zz5_b9))))) (.seq (.reg true zz5_r40) (.seq (.reg true zz5_r41) (.cond (.t 240) (.seq (.reg false zz5_r42) (.ret)) (.skip))))))) (.reg false zz5_r43)))
abbrev zz5_r44:List AI:=[
 aI 242 (.call (.c (.fn f_zz11)) [] 0),
 aN 2 242]
abbrev zz5_c:ACode:=.seq (.reg false zz5_r0) (.seq (.reg false zz5_r1) (.seq (.seq (.reg false zz5_r2) (.cond (.t 22) (.seq (.reg false zz5_r3) (.ret)) (.skip))) (.seq (.seq (.reg false zz5_r4) (.cond (.t 25) (.seq (.reg false zz5_r5) (.ret)) (.skip))) (.seq (.reg false zz5_r6) (.seq (.seq (.reg false zz5_r7) (.block 0 (.loop zz5_l0))) (.seq (.reg false zz5_r44) (.ret)))))))
def zz5_F:AFunc:=⟨243,[.tmp 2],zz5_c⟩
theorem zz5_cp:zf Try.prog [30,55,92,110,130,156,159,180,191,224,238] f_zz5=some zz5_F:=by kernel_rfl
end
end Go.Proofs.Ytlejjdbmmdghmaa
