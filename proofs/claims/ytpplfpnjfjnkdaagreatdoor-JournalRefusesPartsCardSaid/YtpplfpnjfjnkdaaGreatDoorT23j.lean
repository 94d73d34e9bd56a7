/-
 The functions' code in the evaluator's form (second part),printed by a program of ours from the loaded program,and checked against it.
 Conditions: none.
-/
import Derived.Test.YtpplfpnjfjnkdaaGreatDoorT23
namespace Go.Proofs.YtpplfpnjfjnkdaaGreatDoor
open Go Go.E2
noncomputable section
abbrev yiUQ:=[
 aI 6 (.mv true (.c (.bool false)))]
abbrev yiVQ:=[
 iC 17 f_zz111 [(.c (.int .i64 20))] 0,
 iC 18 f_zz76 [(.c (.int .i64 20))] 0,
 aN 7 17,
 aN 8 18]
abbrev yiWQ:=[
 aM 19 7,
 aI 20 (.gd (.pnil 0 false) [(.t 19)])]
abbrev yiXQ:=[
 aI 6 (.mv true (.c (.bool false)))]
abbrev yiYQ:=[
 aM 21 2]
abbrev yiZQ:=[
 aM 22 7,
 iC 23 f_zz95 [(.t 22),(.c (.int .i64 0))] 0]
abbrev yi0Q:=[
 aM 24 8,
 iC 25 f_zz34 [(.t 24),(.c (.int .i64 0))] 0]
abbrev yi1Q:=[
 aM 26 7,
 iU 27 f_zz88 26 0,
 aM 28 8,
 iU 29 f_zz28 28 0,
 iB 30 .neq 27 29]
abbrev yi2Q:=[
 aI 6 (.mv true (.c (.bool false)))]
abbrev yi3Q:ACode:=iJq yiZQ (iJq yi0Q (iJq yi1Q (.cond (.t 30) (iJq yi2Q (.ret)) (.skip))))
abbrev yi4Q:=[
 aM 32 7,
 aM 33 0,
 aM 34 1,
 iW 35 f_zz100 32 33 34 0,
 aM 31 35,
 iX 36 31 0,
 iX 37 31 1,
 aN 9 36,
 aN 10 37]
abbrev ydnQ:=[
 aM 38 8,
 aM 39 0,
 aM 40 1,
 iW 41 f_zz67 38 39 40 0,
 aI 11 (.alloc [.nilP,(.int .i64 0),(.int .i64 0),(.int .i64 0),(.int .i64 0),(.int .i64 0),(.str []),(.int .i64 0),.nilS,(.int .i64 0)]),
 iS 10 11 41]
abbrev ydoQ:=[
 aM 42 7,
 aM 43 0,
 aM 44 1,
 iW 45 f_zz90 42 43 44 0,
 aN 12 45]
abbrev ydpQ:=[
 aM 46 8,
 aM 47 0,
 aM 48 1,
 iW 49 f_zz48 46 47 48 0,
 aN 13 49]
abbrev ydqQ:=[
 aM 51 7,
 aM 52 0,
 aM 53 1,
 iW 54 f_zz100 51 52 53 0,
 aM 50 54,
 iX 55 50 0,
 iX 56 50 1,
 aN 14 55,
 aN 15 56]
abbrev ydrQ:=[
 aM 57 8,
 aM 58 0,
 aM 59 1,
 iW 60 f_zz67 57 58 59 0,
 aI 16 (.alloc [.nilP,(.int .i64 0),(.int .i64 0),(.int .i64 0),(.int .i64 0),(.int .i64 0),(.str []),(.int .i64 0),.nilS,(.int .i64 0)]),
 iS 10 16 60]
abbrev ydsQ:=[
 iC 61 f_zz46 [] 0,
 aM 62 61,
 aT 63 62 (.mv false (.t 10)),
 aT 64 62 (.faddr 9 (.t 11)),
 aT 65 62 (.load false 1 (.t 64) .any),
 aT 66 62 (.bin .eql (.t 63) (.t 65)),
 iY 67 62 66,
 aM 68 67,
 aT 69 68 (.mv false (.t 12)),
 aT 70 68 (.mv false (.t 13)),
 aT 71 68 (.bin .eql (.t 69) (.t 70)),
 iY 72 68 71,
 aM 73 72,
 aT 74 73 (.mv false (.t 15)),
 aT 75 73 (.faddr 9 (.t 16)),
 aT 76 73 (.load false 1 (.t 75) .any),
 aT 77 73 (.bin .eql (.t 74) (.t 76)),
 iY 78 73 77,
 aN 6 78]
abbrev ykRQ:ACode:=iJq yiUQ (iJq yiVQ (.seq (iJq yiWQ (.cond (.t 20) (iJq yiXQ (.ret)) (.skip))) (.seq (iJq yiYQ (.cond (.t 21) (yi3Q) (.skip))) (iJq yi4Q (iJq ydnQ (iJq ydoQ (iJq ydpQ (iJq ydqQ (iJq ydrQ (iJq ydsQ (.ret)))))))))))
def zz0_F:AFunc:=⟨79,[.tmp 6],ykRQ⟩
theorem zz0_cp:zb Tryz.prog [] f_zz0=some zz0_F:=by kernel_rfl
abbrev x1Q:=[
 aI 6 (.mv true (.c .nilP)),
 iI 7 .i64 0]
abbrev x2Q:=[
 aM 15 0,
 aM 16 1,
 aM 17 2,
 iW 18 f_zz101 15 16 17 0,
 aM 14 18,
 iX 19 14 0,
 iX 20 14 1,
 aI 8 (.alloc [.nilP,(.int .i64 0),(.int .i64 0)]),
 iS 3 8 19,
 aN 9 20]
abbrev x3Q:=[
 aM 21 9,
 iK 22 .neq 21 .i64 0]
abbrev x4Q:=[
 aM 23 9,
 aI 6 (.mv true (.c .nilP)),
 aN 7 23]
abbrev x5Q:=[
 iM 25 3 8,
 iU 26 f_zz33 25 0,
 aM 24 26,
 iX 27 24 0,
 iX 28 24 1,
 iX 29 24 2,
 aI 10 (.alloc [(.int .i64 0),(.int .i64 0),(.int .i64 0),(.int .i64 0)]),
 aI 11 (.alloc [(.bool false),(.bool false)]),
 iS 4 10 27,
 iS 2 11 28,
 aN 12 29]
abbrev x6Q:=[
 iEq 31 2 1 11 0,
 iL 32 1 31,
 iT 33 32,
 aM 34 33,
 aT 35 34 (.iaddrA 2 1 (.t 11) (.c (.int .i64 1))),
 aT 36 34 (.load false 1 (.t 35) .any),
 aT 37 34 (.not (.t 36)),
 iY 38 34 37,
 aN 30 38]
abbrev x7Q:=[
 aI 6 (.mv true (.c .nilP)),
 iI 7 .i64 14]
abbrev x8Q:=[
 aM 40 12,
 iK 41 .gtr 40 .i64 4294967295,
 aN 39 41]
abbrev x9Q:=[
 aI 6 (.mv true (.c .nilP)),
 iI 7 .i64 2]
abbrev waQ:ACode:=iJq x8Q (.cond (.t 39) (iJq x9Q (.ret)) (.skip))
abbrev wbQ:=[
 iM 42 3 8,
 aI 43 (.build ([.nilP,(.int .i64 0),(.int .i64 0),(.int .i64 0),(.int .i64 0),(.int .i64 0),(.int .i64 0)]++zr 8 (.int .u8 0)++[.nilS]) [(0,3,(.t 42))]),
 aI 44 (.gn (.box 16) [(.t 43)]),
 aN 13 44]
abbrev ygQ:=[
 iEq 45 2 1 11 0,
 iL 46 1 45,
 iT 47 46,
 aM 48 47,
 aF 49 48 (.iaddrA 2 1 (.t 11) (.c (.int .i64 1))),
 aF 50 48 (.load false 1 (.t 49) .any),
 aF 51 48 (.mv false (.t 50)),
 aT 52 51 (.iaddrA 2 2 (.t 10) (.c (.int .i64 1))),
 aT 53 51 (.faddr 0 (.t 52)),
 aT 54 51 (.load false 1 (.t 53) .any),
 aT 55 51 (.iaddrA 2 2 (.t 10) (.c (.int .i64 0))),
 aT 56 51 (.faddr 0 (.t 55)),
 aT 57 51 (.load false 1 (.t 56) .any),
 aT 58 51 (.bin .gtr (.t 54) (.t 57)),
 aF 59 48 (.pick (.t 51) (.t 58) (.c (.bool false))),
 iO 60 48 59]
abbrev yhQ:=[
 aM 61 13,
 iN 62 61,
 iD 63 5 62,
 aS (.store 1 (.t 63) (.c (.int .i64 1)) .any)]
abbrev yiQ:=[
 aM 64 13,
 aM 65 13,
 iN 66 65,
 iD 67 5 66,
 iL 68 1 67,
 iA 69 2 2 10 68,
 iM 70 2 69,
 iN 71 64,
 iD 72 3 71,
 iS 2 72 70]
abbrev yjQ:=[
 aM 73 13,
 aM 74 13,
 iN 75 74,
 iD 76 3 75,
 iH 77 2 76,
 aM 78 13,
 iN 79 78,
 iD 80 5 79,
 iG 81 1 80,
 iV 82 f_zz42 77 81 1,
 iU 83 f_zz93 82 1,
 iN 84 73,
 iD 85 7 84,
 aS (.store 8 (.t 85) (.t 83) .gp)]
abbrev ykQ:=[
 aM 86 13,
 iU 87 f_zz37 86 0]
abbrev ylQ:=[
 aM 88 13,
 aM 89 12,
 iN 90 88,
 iD 91 3 90,
 iD 92 1 91,
 iS 1 92 89]
abbrev ymQ:=[
 aM 93 13,
 aN 6 93,
 iI 7 .i64 0]
abbrev ydtQ:ACode:=iJq x1Q (iJq x2Q (.seq (iJq x3Q (.cond (.t 22) (iJq x4Q (.ret)) (.skip))) (iJq x5Q (.seq (.block 0 (iJq x6Q (.cond (.t 30) (iJq x7Q (.ret)) (waQ)))) (iJq wbQ (.seq (iJq ygQ (.cond (.t 60) (.reg false yhQ) (.skip))) (iJq yiQ (.seq (.reg true yjQ) (iJq ykQ (iJq ylQ (iJq ymQ (.ret))))))))))))
def zz100_F:AFunc:=⟨94,[.tmp 6,.tmp 7],ydtQ⟩
theorem zz100_cp:zb Tryz.prog [44] f_zz100=some zz100_F:=by kernel_rfl
abbrev yduQ:=[
 aI 6 (.alloc [.nilP,(.int .i64 0),(.int .i64 0),(.int .i64 0),(.int .i64 0),(.int .i64 0),(.str []),(.int .i64 0),.nilS,(.int .i64 0)])]
abbrev ydvQ:=[
 aM 13 0,
 aM 14 1,
 aM 15 2,
 iW 16 f_zz70 13 14 15 0,
 aM 12 16,
 iX 17 12 0,
 iX 18 12 1,
 aI 7 (.alloc [.nilP,(.int .i64 0),(.int .i64 0),(.int .i64 0),(.int .i64 0),(.int .i64 0),(.str []),(.int .i64 0),.nilS]),
 iS 9 7 17,
 aN 8 18]
abbrev ydwQ:=[
 aM 19 8,
 iK 20 .neq 19 .i64 0]
abbrev ydxQ:=[
 aM 21 8,
 aI 22 (.build [.nilP,(.int .i64 0),(.int .i64 0),(.int .i64 0),(.int .i64 0),(.int .i64 0),(.str []),(.int .i64 0),.nilS,(.int .i64 0)] [(9,1,(.t 21))]),
 iS 10 6 22]
abbrev ydyQ:=[
 iM 23 9 7,
 iC 24 f_zz3 [(.t 23),(.c (.int .i64 0))] 0,
 aI 9 (.alloc ([(.bool false)]++zr 64 (.int .u8 0)++[(.int .i64 0),(.int .i64 0),(.int .i64 0)])),
 iS 68 9 24]
abbrev ydzQ:=[
 iM 25 9 7,
 iC 26 f_zz3 [(.t 25),(.c (.int .i64 1))] 0,
 aI 10 (.alloc ([(.bool false)]++zr 64 (.int .u8 0)++[(.int .i64 0),(.int .i64 0),(.int .i64 0)])),
 iS 68 10 26]
abbrev ydAQ:=[
 iD 27 0 9,
 iL 28 1 27,
 iT 29 28,
 aM 30 29,
 aT 31 30 (.faddr 0 (.t 10)),
 aT 32 30 (.load false 1 (.t 31) .any),
 aT 33 30 (.not (.t 32)),
 iY 34 30 33]
abbrev ydBQ:=[
 aI 35 (.build [.nilP,(.int .i64 0),(.int .i64 0),(.int .i64 0),(.int .i64 0),(.int .i64 0),(.str []),(.int .i64 0),.nilS,(.int .i64 0)] [(9,1,(.c (.int .i64 14)))]),
 iS 10 6 35]
abbrev ydCQ:=[
 iM 36 68 9,
 aI 11 (.alloc ([(.bool false)]++zr 64 (.int .u8 0)++[(.int .i64 0),(.int .i64 0),(.int .i64 0)])),
 iS 68 11 36]
abbrev ydDQ:=[
 iD 37 0 9,
 iL 38 1 37,
 iT 39 38,
 aM 40 39,
 aF 41 40 (.faddr 0 (.t 10)),
 aF 42 40 (.load false 1 (.t 41) .any),
 aF 43 40 (.mv false (.t 42)),
 aT 44 43 (.faddr 65 (.t 10)),
 aT 45 43 (.load false 1 (.t 44) .any),
 aT 46 43 (.faddr 65 (.t 9)),
 aT 47 43 (.load false 1 (.t 46) .any),
 aT 48 43 (.bin .gtr (.t 45) (.t 47)),
 aF 49 40 (.pick (.t 43) (.t 48) (.c (.bool false))),
 iO 50 40 49]
abbrev wcQ:=[
 iM 51 68 10,
 iS 68 11 51]
abbrev wdQ:=[
 iD 52 3 7,
 aS (.store 1 (.t 52) (.c (.int .i64 1)) .any)]
abbrev weQ:=[
 iM 53 9 7,
 iU 54 f_zz2 53 0,
 iD 55 5 7,
 iS 1 55 54]
abbrev wfQ:=[
 iD 56 5 7,
 iL 57 1 56,
 iK 58 .gtr 57 .i64 4294967295]
abbrev wgQ:=[
 aI 59 (.build [.nilP,(.int .i64 0),(.int .i64 0),(.int .i64 0),(.int .i64 0),(.int .i64 0),(.str []),(.int .i64 0),.nilS,(.int .i64 0)] [(9,1,(.c (.int .i64 2)))]),
 iS 10 6 59]
abbrev whQ:=[
 iD 60 65 11,
 iL 61 1 60,
 iD 62 4 7,
 iS 1 62 61]
abbrev wiQ:=[
 iD 63 1 11,
 iM 64 64 63,
 iC 65 f_zz71 [(.t 64),(.c (.int .i64 48)),(.c (.int .i64 64))] 0,
 iD 66 6 7,
 iS 1 66 65]
abbrev wjQ:=[
 iM 67 9 7,
 iU 68 f_zz10 67 0,
 aI 69 (.build [.nilP,(.int .i64 0),(.int .i64 0),(.int .i64 0),(.int .i64 0),(.int .i64 0),(.str []),(.int .i64 0),.nilS,(.int .i64 0)] [(0,9,(.t 68))]),
 iS 10 6 69]
abbrev yi5Q:ACode:=iJq yduQ (iJq ydvQ (.seq (iJq ydwQ (.cond (.t 20) (iJq ydxQ (.ret)) (.skip))) (iJq ydyQ (iJq ydzQ (.seq (iJq ydAQ (.cond (.t 34) (iJq ydBQ (.ret)) (.skip))) (iJq ydCQ (.seq (iJq ydDQ (.cond (.t 50) (iJq wcQ (.reg false wdQ)) (.skip))) (iJq weQ (.seq (iJq wfQ (.cond (.t 58) (iJq wgQ (.ret)) (.skip))) (iJq whQ (iJq wiQ (iJq wjQ (.ret)))))))))))))
def zz67_F:AFunc:=⟨70,[.cell 6 true 10],yi5Q⟩
theorem zz67_cp:zb Tryz.prog [] f_zz67=some zz67_F:=by kernel_rfl
abbrev ydEQ:=[
 iI 6 .i64 0]
abbrev ydFQ:=[
 aM 13 0,
 aM 14 1,
 aM 15 2,
 iW 16 f_zz101 13 14 15 0,
 aM 12 16,
 iX 17 12 0,
 iX 18 12 1,
 aI 7 (.alloc [.nilP,(.int .i64 0),(.int .i64 0)]),
 iS 3 7 17,
 aN 8 18]
abbrev ydGQ:=[
 aM 19 8,
 iK 20 .neq 19 .i64 0]
abbrev ydHQ:=[
 aM 21 8,
 aN 6 21]
abbrev ydIQ:=[
 iM 23 3 7,
 iU 24 f_zz33 23 0,
 aM 22 24,
 iX 25 22 0,
 iX 26 22 1,
 iX 27 22 2,
 aI 9 (.alloc [(.int .i64 0),(.int .i64 0),(.int .i64 0),(.int .i64 0)]),
 aI 10 (.alloc [(.bool false),(.bool false)]),
 iS 4 9 25,
 iS 2 10 26,
 aN 11 27]
abbrev ydJQ:=[
 aM 28 11,
 iK 29 .gtr 28 .i64 4294967295]
abbrev ydKQ:=[
 iI 6 .i64 2]
abbrev ydLQ:=[
 iQ 30 3 7 7,
 iQ 31 3 7 7,
 aM 33 11,
 aI 34 (.build [(.int .i64 0),(.int .i64 0)] [(0,1,(.c (.int .i64 1))),(1,1,(.t 33))]),
 iC 32 f_zz45 [(.t 31),(.c (.int .i64 0))] 2,
 iC 35 f_zz42 [(.t 34),(.c (.int .i64 0))] 2,
 iW 36 f_zz62 30 32 35 2,
 iK 37 .neq 36 .i64 0,
 aM 38 37,
 aF 39 38 (.load true 3 (.t 7) (.site 7)),
 aF 40 38 (.load true 3 (.t 7) (.site 7)),
 aF 42 38 (.build (zr 64 (.int .u8 0)) []),
 aF 41 38 (.call (.c (.fn f_zz45)) [(.t 40),(.c (.int .i64 1))] 2),
 aF 43 38 (.call (.c (.fn f_zz62)) [(.t 39),(.t 41),(.t 42)] 2),
 aF 44 38 (.bin .neq (.t 43) (.c (.int .i64 0))),
 iO 45 38 44]
abbrev ydMQ:=[
 iI 6 .i64 12]
abbrev ydNQ:=[
 iD 46 0 7,
 iL 47 1 46,
 iU 48 f_zz88 47 0,
 aN 6 48]
abbrev yi6Q:ACode:=iJq ydEQ (iJq ydFQ (.seq (iJq ydGQ (.cond (.t 20) (iJq ydHQ (.ret)) (.skip))) (iJq ydIQ (.seq (iJq ydJQ (.cond (.t 29) (iJq ydKQ (.ret)) (.skip))) (.seq (.seq (.reg true ydLQ) (.cond (.t 45) (iJq ydMQ (.ret)) (.skip))) (iJq ydNQ (.ret)))))))
def zz90_F:AFunc:=⟨49,[.tmp 6],yi6Q⟩
theorem zz90_cp:zb Tryz.prog [] f_zz90=some zz90_F:=by kernel_rfl
abbrev ydOQ:=[
 iI 6 .i64 0]
abbrev ydPQ:=[
 aM 11 0,
 aM 12 1,
 aM 13 2,
 iW 14 f_zz70 11 12 13 0,
 aM 10 14,
 iX 15 10 0,
 iX 16 10 1,
 aI 7 (.alloc [.nilP,(.int .i64 0),(.int .i64 0),(.int .i64 0),(.int .i64 0),(.int .i64 0),(.str []),(.int .i64 0),.nilS]),
 iS 9 7 15,
 aN 8 16]
abbrev ydQQ:=[
 aM 17 8,
 iK 18 .neq 17 .i64 0]
abbrev ydRQ:=[
 aM 19 8,
 aN 6 19]
abbrev ydSQ:=[
 iM 20 9 7,
 iU 21 f_zz2 20 0,
 aN 9 21]
abbrev ydTQ:=[
 aM 22 9,
 iK 23 .gtr 22 .i64 4294967295]
abbrev ydUQ:=[
 iI 6 .i64 2]
abbrev ydVQ:=[
 aM 24 0,
 iM 25 9 7,
 iC 26 f_zz23 [(.t 25),(.c (.int .i64 0))] 0,
 aM 27 9,
 iC 28 f_zz49 [(.c (.int .i64 1)),(.t 27),(.c (.int .i64 0))] 0,
 iW 29 f_zz60 24 26 28 0,
 iK 30 .neq 29 .i64 0,
 aM 31 30,
 aF 32 31 (.mv false (.t 0)),
 aF 33 31 (.load true 9 (.t 7) .any),
 aF 34 31 (.call (.c (.fn f_zz23)) [(.t 33),(.c (.int .i64 1))] 0),
 aF 35 31 (.build (zr 64 (.int .u8 0)) []),
 aF 36 31 (.call (.c (.fn f_zz60)) [(.t 32),(.t 34),(.t 35)] 0),
 aF 37 31 (.bin .neq (.t 36) (.c (.int .i64 0))),
 iO 38 31 37]
abbrev ydWQ:=[
 iI 6 .i64 12]
abbrev ydXQ:=[
 aM 39 0,
 iU 40 f_zz28 39 0,
 aN 6 40]
abbrev yi7Q:ACode:=iJq ydOQ (iJq ydPQ (.seq (iJq ydQQ (.cond (.t 18) (iJq ydRQ (.ret)) (.skip))) (iJq ydSQ (.seq (iJq ydTQ (.cond (.t 23) (iJq ydUQ (.ret)) (.skip))) (.seq (iJq ydVQ (.cond (.t 38) (iJq ydWQ (.ret)) (.skip))) (iJq ydXQ (.ret)))))))
def zz48_F:AFunc:=⟨41,[.tmp 6],yi7Q⟩
theorem zz48_cp:zb Tryz.prog [] f_zz48=some zz48_F:=by kernel_rfl
abbrev ydYQ:=[
 aI 0 (.mv true (.c (.bool false)))]
abbrev ydZQ:=[
 iC 9 f_zz111 [(.c (.int .i64 20))] 0,
 aN 1 9]
abbrev yd0Q:=[
 aM 10 1,
 aI 11 (.gd (.pnil 0 false) [(.t 10)]),
 aM 12 11,
 aF 13 12 (.mv false (.t 1)),
 aF 14 12 (.call (.c (.fn f_zz90)) [(.t 13),(.c (.int .i64 0)),(.c (.int .i64 20))] 0),
 aF 15 12 (.bin .neq (.t 14) (.c (.int .i64 0))),
 iO 16 12 15]
abbrev yd1Q:=[
 aI 0 (.mv true (.c (.bool false)))]
abbrev yd2Q:=[
 aM 18 1,
 iC 19 f_zz100 [(.t 18),(.c (.int .i64 0)),(.c (.int .i64 20))] 0,
 aM 17 19,
 iX 20 17 0,
 iX 21 17 1,
 aN 2 20,
 aN 3 21]
abbrev yd3Q:=[
 aM 22 3,
 iK 23 .neq 22 .i64 0,
 aM 24 23,
 aF 25 24 (.mv false (.t 2)),
 aF 26 24 (.gd (.pnil 0 false) [(.t 25)]),
 iO 27 24 26,
 aM 28 27,
 aF 29 28 (.mv false (.t 2)),
 aF 30 28 (.call (.c (.fn f_zz36)) [(.t 29)] 0),
 aF 31 28 (.bin .neq (.t 30) (.c (.int .i64 4))),
 iO 32 28 31,
 aM 33 32,
 aF 34 33 (.mv false (.t 2)),
 aF 35 33 (.call (.c (.fn f_zz13)) [(.t 34)] 0),
 aF 36 33 (.len false (.t 35)),
 aF 37 33 (.bin .neq (.t 36) (.c (.int .i64 0))),
 iO 38 33 37]
abbrev yd4Q:=[
 aI 0 (.mv true (.c (.bool false)))]
abbrev yd5Q:=[
 aM 39 2,
 iC 40 f_zz24 [(.t 39),(.c (.str [97]))] 0,
 iK 41 .neq 40 .i64 0,
 aM 42 41,
 aF 43 42 (.mv false (.t 2)),
 aF 44 42 (.call (.c (.fn f_zz64)) [(.c (.int .i64 31))] 0),
 aF 45 42 (.call (.c (.fn f_zz24)) [(.t 43),(.t 44)] 0),
 aF 46 42 (.bin .neq (.t 45) (.c (.int .i64 0))),
 iO 47 42 46,
 aM 48 47,
 aF 49 48 (.mv false (.t 2)),
 aF 50 48 (.call (.c (.fn f_zz36)) [(.t 49)] 0),
 aF 51 48 (.bin .neq (.t 50) (.c (.int .i64 1))),
 iO 52 48 51,
 aM 53 52,
 aF 54 53 (.mv false (.t 2)),
 aF 55 53 (.call (.c (.fn f_zz25)) [(.t 54)] 0),
 aF 56 53 (.bin .neq (.t 55) (.c (.int .i64 0))),
 iO 57 53 56,
 aM 58 57,
 aF 59 58 (.mv false (.t 2)),
 aF 60 58 (.call (.c (.fn f_zz24)) [(.t 59),(.c (.str [98]))] 0),
 aF 61 58 (.bin .neq (.t 60) (.c (.int .i64 0))),
 iO 62 58 61]
abbrev yd6Q:=[
 aI 0 (.mv true (.c (.bool false)))]
abbrev yd7Q:=[
 aM 63 1,
 aI 64 (.mkslice 1 1 (.int .i64 0) [(0,(.c (.int .i64 0)))]),
 iV 65 f_zz79 63 64 0,
 aN 1 65]
abbrev wkQ:=[
 aM 67 1,
 iC 68 f_zz100 [(.t 67),(.c (.int .i64 0)),(.c (.int .i64 20))] 0,
 aM 66 68,
 iX 69 66 0,
 iX 70 66 1,
 aN 4 69,
 aN 5 70]
abbrev wlQ:=[
 aM 71 5,
 iK 72 .neq 71 .i64 0,
 aM 73 72,
 aF 74 73 (.mv false (.t 4)),
 aF 75 73 (.gd (.pnil 0 false) [(.t 74)]),
 iO 76 73 75,
 aM 77 76,
 aF 78 77 (.mv false (.t 4)),
 aF 79 77 (.call (.c (.fn f_zz13)) [(.t 78)] 0),
 aF 80 77 (.call (.c (.fn f_zz64)) [(.c (.int .i64 31))] 0),
 aF 81 77 (.mkslice 1 2 (.str []) [(0,(.c (.str [97]))),(1,(.t 80))]),
 aF 82 77 (.call (.c (.fn f_zz68)) [(.t 79),(.t 81)] 0),
 aF 83 77 (.not (.t 82)),
 iO 84 77 83,
 aM 85 84,
 aF 86 85 (.mv false (.t 4)),
 aF 87 85 (.call (.c (.fn f_zz64)) [(.c (.int .i64 31))] 0),
 aF 88 85 (.call (.c (.fn f_zz24)) [(.t 86),(.t 87)] 0),
 aF 89 85 (.bin .neq (.t 88) (.c (.int .i64 13))),
 iO 90 85 89]
abbrev wmQ:=[
 aI 0 (.mv true (.c (.bool false)))]
abbrev wnQ:=[
 aM 91 4,
 aI 92 (.mkslice 1 1 (.str []) [(0,(.c (.str [99])))]),
 iV 93 f_zz14 91 92 0,
 iK 94 .neq 93 .i64 0,
 aM 95 94,
 aF 96 95 (.mv false (.t 4)),
 aF 97 95 (.call (.c (.fn f_zz6)) [(.t 96)] 0),
 aF 98 95 (.bin .neq (.t 97) (.c (.int .i64 2))),
 iO 99 95 98,
 aM 100 99,
 aF 101 100 (.mv false (.t 4)),
 aF 102 100 (.call (.c (.fn f_zz13)) [(.t 101)] 0),
 aF 103 100 (.mkslice 1 1 (.str []) [(0,(.c (.str [99])))]),
 aF 104 100 (.call (.c (.fn f_zz68)) [(.t 102),(.t 103)] 0),
 aF 105 100 (.not (.t 104)),
 iO 106 100 105,
 aM 107 106,
 aF 108 107 (.mv false (.t 4)),
 aF 109 107 (.call (.c (.fn f_zz36)) [(.t 108)] 0),
 aF 110 107 (.bin .neq (.t 109) (.c (.int .i64 3))),
 iO 111 107 110]
abbrev woQ:=[
 aI 0 (.mv true (.c (.bool false)))]
abbrev wpQ:=[
 aM 112 1,
 iC 113 f_zz96 [(.t 112),(.c (.int .i64 10))] 0,
 iK 114 .eql 113 .i64 0,
 aM 115 114,
 aT 116 115 (.mv false (.t 1)),
 aT 117 115 (.call (.c (.fn f_zz96)) [(.t 116),(.c (.int .i64 13))] 0),
 aT 118 115 (.bin .eql (.t 117) (.c (.int .i64 0))),
 iY 119 115 118,
 aN 6 119]
abbrev wqQ:=[
 aM 121 1,
 iC 122 f_zz100 [(.t 121),(.c (.int .i64 0)),(.c (.int .i64 20))] 0,
 aM 120 122,
 iX 123 120 0,
 iX 124 120 1,
 aN 7 123,
 aN 8 124]
abbrev wrQ:=[
 aM 125 6,
 aM 126 125,
 aT 127 126 (.mv false (.t 8)),
 aT 128 126 (.bin .eql (.t 127) (.c (.int .i64 0))),
 iY 129 126 128,
 aM 130 129,
 aT 131 130 (.mv false (.t 7)),
 aT 132 130 (.gd (.pnil 0 true) [(.t 131)]),
 iY 133 130 132,
 aM 134 133,
 aT 135 134 (.mv false (.t 7)),
 aT 136 134 (.call (.c (.fn f_zz13)) [(.t 135)] 0),
 aT 137 134 (.mkslice 1 1 (.str []) [(0,(.c (.str [99])))]),
 aT 138 134 (.call (.c (.fn f_zz68)) [(.t 136),(.t 137)] 0),
 iY 139 134 138,
 aN 0 139]
abbrev yi8Q:ACode:=iJq ydYQ (iJq ydZQ (.seq (iJq yd0Q (.cond (.t 16) (iJq yd1Q (.ret)) (.skip))) (iJq yd2Q (.seq (iJq yd3Q (.cond (.t 38) (iJq yd4Q (.ret)) (.skip))) (.seq (iJq yd5Q (.cond (.t 62) (iJq yd6Q (.ret)) (.skip))) (iJq yd7Q (iJq wkQ (.seq (iJq wlQ (.cond (.t 90) (iJq wmQ (.ret)) (.skip))) (.seq (iJq wnQ (.cond (.t 111) (iJq woQ (.ret)) (.skip))) (iJq wpQ (iJq wqQ (iJq wrQ (.ret)))))))))))))
def zz46_F:AFunc:=⟨140,[.tmp 0],yi8Q⟩
theorem zz46_cp:zb Tryz.prog [] f_zz46=some zz46_F:=by kernel_rfl
-- loop 0: [13, 14, 15, 36, 37, 38]
-- loop 1: [13, 14, 15]
abbrev yd8Q:=[
 iI 4 .i64 0]
abbrev yd9Q:=[
 aM 8 1,
 aI 9 (.len true (.t 8)),
 iK 10 .gtr 9 .i64 1000,
 aN 7 10]
abbrev yeaQ:=[
 iI 4 .i64 1]
abbrev yebQ:=[
 aM 12 1,
 iU 13 f_zz105 12 0,
 iZ 14 13,
 aM 15 0,
 iU 16 f_zz36 15 0,
 iB 17 .gtr 14 16,
 aN 11 17]
abbrev yecQ:=[
 iI 4 .i64 13]
abbrev yedQ:ACode:=iJq yebQ (.cond (.t 11) (iJq yecQ (.ret)) (.skip))
abbrev yeeQ:=[
 aM 18 0,
 iN 19 18,
 iM 20 16 19,
 aI 5 (.alloc ([.nilP,(.int .i64 0),(.int .i64 0),(.int .i64 0),(.int .i64 0),(.int .i64 0),(.int .i64 0)]++zr 8 (.int .u8 0)++[.nilS])),
 iS 16 5 20]
abbrev yefQ:=[
 aM 21 0,
 aM 22 1,
 iV 23 f_zz41 21 22 0,
 aN 6 23]
abbrev yegQ:=[
 aM 24 6,
 iK 25 .neq 24 .i64 0]
abbrev yehQ:=[
 aM 26 0,
 iM 27 16 5,
 iN 28 26,
 iS 16 28 27]
abbrev yeiQ:=[
 aM 29 6,
 aN 4 29]
abbrev yi9Q:ACode:=iJq yd8Q (.seq (.block 0 (iJq yd9Q (.cond (.t 7) (iJq yeaQ (.ret)) (yedQ)))) (iJq yeeQ (iJq yefQ (.seq (iJq yegQ (.cond (.t 25) (.reg false yehQ) (.skip))) (iJq yeiQ (.ret))))))
def zz24_F:AFunc:=⟨30,[.tmp 4],yi9Q⟩
theorem zz24_cp:zb Tryz.prog [] f_zz24=some zz24_F:=by kernel_rfl
abbrev yejQ:=[
 iI 2 .i64 0]
abbrev yekQ:=[
 aM 3 0,
 iN 4 3,
 iD 5 0 4,
 iD 6 0 5,
 iL 7 1 6,
 iU 8 f_zz88 7 0,
 aN 2 8]
abbrev yjaQ:ACode:=iJq yejQ (iJq yekQ (.ret))
def zz25_F:AFunc:=⟨9,[.tmp 2],yjaQ⟩
theorem zz25_cp:zb Tryz.prog [] f_zz25=some zz25_F:=by kernel_rfl
-- loop 0: [0, 1, 5, 13, 14, 15]
-- loop 1: [0, 8, 9, 73, 74, 75]
abbrev yelQ:=[
 iI 4 .i64 0]
abbrev yemQ:=[
 iI 5 .i64 0]
abbrev yenQ:=[
 aM 13 1,
 iZ 14 13,
 aI 15 (.mv false (.c (.int .i64 0)))]
abbrev yeoQ:=[
 iB 16 .lss 15 14]
abbrev yepQ:=[
 iR 17 1 13 15,
 iL 18 1 17,
 aN 7 18]
abbrev yeqQ:=[
 aM 19 7,
 aI 20 (.len true (.t 19)),
 iK 21 .gtr 20 .i64 1000]
abbrev yerQ:=[
 iI 4 .i64 1]
abbrev yesQ:=[
 aM 22 5,
 aM 23 7,
 iU 24 f_zz105 23 0,
 iZ 25 24,
 iB 26 .add 22 25,
 aN 5 26]
abbrev yetQ:=[
 iK 27 .add 15 .i64 1,
 aM 15 27]
abbrev yeuQ:ACode:=iJq yeoQ (.seq (.cond (.t 16) (.skip) (.exit 0)) (.seq (.block 1 (iJq yepQ (.seq (iJq yeqQ (.cond (.t 21) (iJq yerQ (.ret)) (.skip))) (.reg false yesQ)))) (.reg false yetQ)))
abbrev yevQ:=[
 aM 29 5,
 aM 30 0,
 iN 31 30,
 iD 32 0 31,
 iM 33 3 32,
 iU 34 f_zz54 33 0,
 iB 35 .gtr 29 34,
 aN 28 35]
abbrev wsQ:=[
 iI 4 .i64 13]
abbrev wtQ:=[
 aM 37 0,
 iN 38 37,
 iD 39 3 38,
 iD 40 0 39,
 iL 41 1 40,
 iK 42 .eql 41 .i64 4294967295,
 aN 36 42]
abbrev wuQ:=[
 iI 4 .i64 2]
abbrev yewQ:ACode:=iJq wtQ (.cond (.t 36) (iJq wuQ (.ret)) (.skip))
abbrev wvQ:=[
 aM 43 0,
 iN 44 43,
 iD 45 0 44,
 iH 46 3 45,
 aM 47 0,
 iN 48 47,
 iD 49 3 48,
 iD 50 0 49,
 iG 51 1 50,
 iK 52 .add 51 .i64 1,
 aM 53 0,
 iN 54 53,
 iD 55 3 54,
 iD 56 1 55,
 iG 57 1 56,
 aI 58 (.build [(.int .i64 0),(.int .i64 0)] [(0,1,(.t 52)),(1,1,(.t 57))]),
 aM 59 0,
 iN 60 59,
 iD 61 5 60,
 iG 62 1 61,
 aI 63 (.bin .sub (.c (.int .i64 1)) (.t 62)),
 aI 64 (.build ([.nilP,(.int .i64 0),(.int .i64 0),(.int .i64 0),(.int .i64 0),(.int .i64 0),(.int .i64 0)]++zr 8 (.int .u8 0)++[.nilS]) [(0,3,(.t 46)),(3,2,(.t 58)),(5,1,(.t 63))]),
 aI 8 (.gn (.alloc ([.nilP,(.int .i64 0),(.int .i64 0),(.int .i64 0),(.int .i64 0),(.int .i64 0),(.int .i64 0)]++zr 8 (.int .u8 0)++[.nilS])) []),
 aS (.store 16 (.t 8) (.t 64) .gp)]
abbrev wwQ:=[
 iD 65 3 8,
 iM 66 2 65,
 iD 67 5 8,
 iL 68 1 67,
 iV 69 f_zz42 66 68 0,
 aI 9 (.alloc (zr 64 (.int .u8 0))),
 iS 64 9 69]
abbrev wxQ:=[
 iM 70 64 9,
 iU 71 f_zz93 70 0,
 iD 72 7 8,
 iS 8 72 71]
abbrev wyQ:=[
 aM 73 1,
 iZ 74 73,
 aI 75 (.mv false (.c (.int .i64 0)))]
abbrev wzQ:=[
 iB 76 .lss 75 74]
abbrev wAQ:=[
 iR 77 1 73 75,
 iL 78 1 77,
 aN 11 78]
abbrev wBQ:=[
 aM 79 11,
 iV 80 f_zz41 8 79 0,
 aN 12 80]
abbrev wCQ:=[
 aM 81 12,
 iK 82 .neq 81 .i64 0]
abbrev wDQ:=[
 aM 83 12,
 aN 4 83]
abbrev wEQ:=[
 iK 84 .add 75 .i64 1,
 aM 75 84]
abbrev yexQ:ACode:=iJq wzQ (.seq (.cond (.t 76) (.skip) (.exit 3)) (.seq (.block 4 (iJq wAQ (iJq wBQ (iJq wCQ (.cond (.t 82) (iJq wDQ (.ret)) (.skip)))))) (.reg false wEQ)))
abbrev wFQ:=[
 iD 85 0 8,
 iD 86 0 85,
 iG 87 1 86,
 iU 88 f_zz88 87 2,
 iK 89 .neq 88 .i64 0,
 aM 90 89,
 aF 91 90 (.faddr 0 (.t 8)),
 aF 92 90 (.load true 3 (.t 91) .foreign),
 aF 93 90 (.faddr 0 (.t 8)),
 aF 94 90 (.load true 3 (.t 93) .foreign),
 aF 95 90 (.faddr 5 (.t 8)),
 aF 96 90 (.load false 1 (.t 95) .foreign),
 aF 98 90 (.load true 64 (.t 9) (.site 9)),
 aF 97 90 (.call (.c (.fn f_zz45)) [(.t 94),(.t 96)] 1),
 aF 99 90 (.call (.c (.fn f_zz62)) [(.t 92),(.t 97),(.t 98)] 2),
 aF 100 90 (.bin .neq (.t 99) (.c (.int .i64 0))),
 iO 101 90 100,
 aM 102 101,
 aF 103 102 (.faddr 0 (.t 8)),
 aF 104 102 (.faddr 0 (.t 103)),
 aF 105 102 (.load false 1 (.t 104) .foreign),
 aF 106 102 (.call (.c (.fn f_zz88)) [(.t 105)] 2),
 aF 107 102 (.bin .neq (.t 106) (.c (.int .i64 0))),
 iO 108 102 107]
abbrev wGQ:=[
 iI 4 .i64 12]
abbrev wHQ:=[
 aM 109 0,
 iM 110 16 8,
 iN 111 109,
 iS 16 111 110]
abbrev wIQ:=[
 iI 4 .i64 0]
abbrev yjbQ:ACode:=iJq yelQ (iJq yemQ (.seq (iJq yenQ (.block 0 (.loop yeuQ))) (.seq (.block 2 (iJq yevQ (.cond (.t 28) (iJq wsQ (.ret)) (yewQ)))) (.seq (.reg true wvQ) (iJq wwQ (iJq wxQ (.seq (iJq wyQ (.block 3 (.loop yexQ))) (.seq (.seq (.reg true wFQ) (.cond (.t 108) (iJq wGQ (.ret)) (.skip))) (iJq wHQ (iJq wIQ (.ret)))))))))))
def zz14_F:AFunc:=⟨112,[.tmp 4],yjbQ⟩
theorem zz14_cp:zb Tryz.prog [8,88,99,106] f_zz14=some zz14_F:=by kernel_rfl
abbrev yeyQ:=[
 aI 2 (.mv true (.c .nilS))]
abbrev yezQ:=[
 aM 3 0,
 iN 4 3,
 iD 5 15 4,
 iL 6 1 5,
 iU 7 f_zz8 6 0,
 aN 2 7]
abbrev yjcQ:ACode:=iJq yeyQ (iJq yezQ (.ret))
def zz13_F:AFunc:=⟨8,[.tmp 2],yjcQ⟩
theorem zz13_cp:zb Tryz.prog [] f_zz13=some zz13_F:=by kernel_rfl
abbrev yeAQ:=[
 aI 2 (.box 64 (.t 0)),
 aI 4 (.mv true (.c (.bool false)))]
abbrev yeBQ:=[
 iM 6 64 2,
 iC 7 f_zz71 [(.t 6),(.c (.int .i64 0)),(.c (.int .i64 48))] 0,
 aM 8 1,
 iV 9 f_zz11 7 8 0,
 aI 5 (.alloc (zr 16 (.int .u8 0))),
 iS 16 5 9]
abbrev yeCQ:=[
 iQ 10 64 2 2,
 iC 11 f_zz71 [(.t 10),(.c (.int .i64 0)),(.c (.int .i64 8))] 2,
 iC 12 f_zz59 [] 2,
 iB 13 .eql 11 12,
 aM 14 13,
 aT 15 14 (.load true 64 (.t 2) (.site 2)),
 aT 17 14 (.load true 16 (.t 5) (.site 5)),
 aT 16 14 (.call (.c (.fn f_zz71)) [(.t 15),(.c (.int .i64 48)),(.c (.int .i64 64))] 2),
 aT 18 14 (.call (.c (.fn f_zz65)) [(.t 17)] 2),
 aT 19 14 (.bin .eql (.t 16) (.t 18)),
 iY 20 14 19,
 aN 4 20]
abbrev yjdQ:ACode:=iJq yeAQ (iJq yeBQ (.seq (.reg true yeCQ) (.ret)))
def zz35_F:AFunc:=⟨21,[.tmp 4],yjdQ⟩
theorem zz35_cp:zb Tryz.prog [] f_zz35=some zz35_F:=by kernel_rfl
abbrev yeDQ:=[
 aI 3 (.box 64 (.t 0)),
 aI 6 (.mv true (.c (.bool false)))]
abbrev yeEQ:=[
 iQ 8 64 3 3,
 iQ 10 64 3 3,
 aM 13 1,
 aM 14 2,
 aI 7 (.alloc (zr 16 (.int .u8 0))),
 iC 9 f_zz71 [(.t 8),(.c (.int .i64 0)),(.c (.int .i64 16))] 2,
 iC 11 f_zz71 [(.t 10),(.c (.int .i64 24)),(.c (.int .i64 56))] 2,
 iB 12 .add 9 11,
 iW 15 f_zz5 12 13 14 2,
 aS (.store 16 (.t 7) (.t 15) (.site 7))]
abbrev yeFQ:=[
 iQ 16 64 3 3,
 iQ 18 16 7 7,
 iU 17 f_zz77 16 2,
 iU 19 f_zz65 18 2,
 iB 20 .eql 17 19,
 aN 6 20]
abbrev yjeQ:ACode:=iJq yeDQ (.seq (.reg true yeEQ) (.seq (.reg true yeFQ) (.ret)))
def zz22_F:AFunc:=⟨21,[.tmp 6],yjeQ⟩
theorem zz22_cp:zb Tryz.prog [] f_zz22=some zz22_F:=by kernel_rfl
-- loop 0: [0, 1, 5]
abbrev yeGQ:=[
 aI 4 (.mv true (.c (.bool false)))]
abbrev yeHQ:=[
 aM 6 0,
 iZ 7 6,
 aM 8 1,
 iZ 9 8,
 iB 10 .neq 7 9]
abbrev yeIQ:=[
 aI 4 (.mv true (.c (.bool false)))]
abbrev yeJQ:=[
 iI 5 .i64 0]
abbrev yeKQ:=[
 aM 11 5,
 aM 12 0,
 iZ 13 12,
 iB 14 .lss 11 13]
abbrev yeLQ:=[
 aM 17 0,
 aM 18 5,
 iR 19 1 17 18,
 iG 20 1 19,
 aM 21 1,
 aM 22 5,
 iR 23 1 21 22,
 iG 24 1 23,
 iB 25 .neq 20 24]
abbrev yeMQ:=[
 aI 4 (.mv true (.c (.bool false)))]
abbrev yeNQ:=[
 aM 15 5,
 iK 16 .add 15 .i64 1,
 aN 5 16]
abbrev yeOQ:ACode:=.seq (iJq yeKQ (.cond (.t 14) (.skip) (.exit 0))) (.seq (.block 1 (.seq (.reg true yeLQ) (.cond (.t 25) (iJq yeMQ (.ret)) (.skip)))) (.reg false yeNQ))
abbrev yePQ:=[
 aI 4 (.mv true (.c (.bool true)))]
abbrev yjfQ:ACode:=iJq yeGQ (.seq (iJq yeHQ (.cond (.t 10) (iJq yeIQ (.ret)) (.skip))) (.seq (iJq yeJQ (.block 0 (.loop yeOQ))) (iJq yePQ (.ret))))
def zz68_F:AFunc:=⟨26,[.tmp 4],yjfQ⟩
theorem zz68_cp:zb Tryz.prog [] f_zz68=some zz68_F:=by kernel_rfl
abbrev wJQ:=[
 aI 6 (.alloc [.nilP,(.int .i64 0),(.int .i64 0)]),
 iI 7 .i64 0]
abbrev wKQ:=[
 aM 9 2,
 iK 10 .lss 9 .i64 8,
 aN 8 10]
abbrev wLQ:=[
 aM 11 1,
 iK 12 .lss 11 .i64 0,
 aN 8 12]
abbrev wMQ:=[
 aM 13 1,
 aM 14 0,
 iU 15 f_zz87 14 0,
 iB 16 .gtr 13 15,
 aN 8 16]
abbrev wNQ:=[
 aM 17 2,
 aM 18 0,
 iU 19 f_zz87 18 0,
 aM 20 1,
 iB 21 .sub 19 20,
 iB 22 .gtr 17 21,
 aN 8 22]
abbrev wOQ:ACode:=iJq wMQ (.cond (.t 8) (.skip) (.reg false wNQ))
abbrev wPQ:ACode:=iJq wLQ (.cond (.t 8) (.skip) (wOQ))
abbrev wQQ:=[
 aI 23 (.build [.nilP,(.int .i64 0),(.int .i64 0)] []),
 iS 3 6 23,
 iI 7 .i64 1]
abbrev wRQ:=[
 aM 25 0,
 iU 26 f_zz85 25 0,
 aN 24 26]
abbrev wSQ:=[
 aI 27 (.build [.nilP,(.int .i64 0),(.int .i64 0)] []),
 iS 3 6 27,
 iI 7 .i64 12]
abbrev wTQ:ACode:=iJq wRQ (.cond (.t 24) (iJq wSQ (.ret)) (.skip))
abbrev wUQ:=[
 aM 28 0,
 aM 29 1,
 aM 30 2,
 iK 31 .quo 30 .i64 2,
 aI 32 (.build [.nilP,(.int .i64 0),(.int .i64 0)] [(0,1,(.t 28)),(1,1,(.t 29)),(2,1,(.t 31))]),
 iS 3 6 32,
 iI 7 .i64 0]
abbrev yeQQ:ACode:=iJq wJQ (.seq (.block 0 (.seq (iJq wKQ (.cond (.t 8) (.skip) (wPQ))) (.cond (.t 8) (iJq wQQ (.ret)) (wTQ)))) (iJq wUQ (.ret)))
def zz101_F:AFunc:=⟨33,[.cell 6 true 3,.tmp 7],yeQQ⟩
theorem zz101_cp:zb Tryz.prog [] f_zz101=some zz101_F:=by kernel_rfl
-- loop 0: [2, 3, 4, 5, 19]
-- loop 1: [4, 55]
-- loop 2: [1, 2, 3, 4, 5, 10, 44, 45]
-- loop 3: [1, 2, 3, 4, 10]
abbrev yeRQ:=[
 aI 1 (.box 3 (.t 0)),
 aI 2 (.gn (.alloc [(.int .i64 0),(.int .i64 0),(.int .i64 0),(.int .i64 0)]) []),
 aI 3 (.gn (.alloc [(.bool false),(.bool false)]) []),
 aI 4 (.gn (.alloc [(.int .i64 0)]) [])]
abbrev yeSQ:=[
 aI 10 (.mv false (.c (.int .i64 0)))]
abbrev yeTQ:=[
 iK 11 .lss 10 .i64 2]
abbrev yeUQ:=[
 aM 12 10,
 aI 5 (.gn (.alloc [(.int .i64 0)]) []),
 iS 1 5 12]
abbrev yeVQ:=[
 iQ 13 3 1 1,
 iQ 14 3 1 1,
 iG 15 1 5,
 aI 17 (.gd (.clo f_zz18) [(.t 5)]),
 iV 16 f_zz45 14 15 1,
 iW 18 f_zz44 13 16 17 3]
abbrev yeWQ:=[
 aI 6 (.alloc (zr 64 (.int .u8 0))),
 iS 64 6 19]
abbrev yeXQ:=[
 iM 20 64 6,
 iU 21 f_zz73 20 0,
 aI 7 (.alloc [(.int .i64 0),(.int .i64 0)]),
 iS 2 7 21]
abbrev yeYQ:=[
 iL 22 1 4,
 iD 23 1 7,
 iL 24 1 23,
 aI 25 (.mx (.t 22) (.t 24)),
 iS 1 4 25]
abbrev yeZQ:=[
 iG 26 1 5,
 iA 27 2 1 3 26,
 iG 28 1 27,
 iT 29 28,
 aM 30 29,
 aF 31 30 (.load true 2 (.t 7) (.site 7)),
 aF 32 30 (.load false 1 (.t 5) .foreign),
 aF 33 30 (.iaddrA 2 2 (.t 2) (.t 32)),
 aF 34 30 (.load true 2 (.t 33) .foreign),
 aF 35 30 (.call (.c (.fn f_zz38)) [(.t 31),(.t 34)] 1),
 aF 36 30 (.bin .gtr (.t 35) (.c (.int .i64 0))),
 iO 37 30 36]
abbrev ye0Q:=[
 iG 38 1 5,
 iG 39 1 5,
 iQ 40 2 7 7,
 iA 41 2 2 2 38,
 aS (.kp [(.ld false 1 (.t 5))] (.store 2 (.t 41) (.t 40) .gp)),
 iA 42 2 1 3 39,
 aS (.store 1 (.t 42) (.c (.bool true)) .gp)]
abbrev zat:ACode:=.reg false yeWQ
abbrev journal_part_greatest_y0b:ACode:=.block 3 (iJq yeXQ (iJq yeYQ (.seq (.reg true yeZQ) (.cond (.t 37) (.reg true ye0Q) (.skip)))))
abbrev wVQ:=[
 iM 43 3 1,
 iU 44 f_zz54 43 0,
 aI 45 (.mv false (.c (.int .i64 0)))]
abbrev wWQ:=[
 iB 46 .lss 45 44]
abbrev wXQ:=[
 aM 47 45,
 aI 8 (.gn (.alloc [(.int .i64 0)]) []),
 iS 1 8 47]
abbrev wYQ:=[
 iQ 48 3 1 1,
 iQ 49 3 1 1,
 iG 50 1 5,
 iG 51 1 8,
 aI 53 (.gd (.clo f_zz19) [(.t 5),(.t 8)]),
 iW 52 f_zz63 49 50 51 1,
 iW 54 f_zz44 48 52 53 3]
abbrev wZQ:=[
 aI 9 (.alloc (zr 64 (.int .u8 0))),
 iS 64 9 55]
abbrev w0Q:=[
 iG 56 1 4,
 iQ 57 64 9 9,
 iU 58 f_zz39 57 1,
 aI 59 (.field false 1 1 (.t 58)),
 aI 60 (.mx (.t 56) (.t 59)),
 aS (.store 1 (.t 4) (.t 60) .gp)]
abbrev zbg:ACode:=.reg false wZQ
abbrev journal_part_greatest_y1b:ACode:=.block 7 (.reg true w0Q)
abbrev w1Q:=[
 iK 61 .add 45 .i64 1,
 aM 45 61]
abbrev ye1Q:ACode:=iJq wWQ (.seq (.cond (.t 46) (.skip) (.exit 4)) (.seq (.block 5 (iJq wXQ (.seq (.reg true wYQ) (.block 6 (.rangeF (.t 54) [55] zbg journal_part_greatest_y1b))))) (.reg false w1Q)))
abbrev w2Q:=[
 iK 62 .add 10 .i64 1,
 aM 10 62]
abbrev ye2Q:ACode:=iJq yeTQ (.seq (.cond (.t 11) (.skip) (.exit 0)) (.seq (.block 1 (iJq yeUQ (.seq (.seq (.reg true yeVQ) (.block 2 (.rangeF (.t 18) [19] zat journal_part_greatest_y0b))) (iJq wVQ (.block 4 (.loop ye1Q)))))) (.reg false w2Q)))
abbrev w3Q:=[
 iH 63 4 2,
 iH 64 2 3,
 iG 65 1 4,
 iK 66 .add 65 .i64 1,
 aS (.kp [(.ld true 2 (.t 3)),(.ld false 1 (.t 4))] (.store 4 (.t 2) (.t 63) .gp)),
 aS (.kp [(.ld false 1 (.t 4))] (.store 2 (.t 3) (.t 64) .gp)),
 aS (.store 1 (.t 4) (.t 66) .gp)]
abbrev yjgQ:ACode:=iJq yeRQ (.seq (iJq yeSQ (.block 0 (.loop ye2Q))) (.seq (.reg true w3Q) (.ret)))
def zz33_F:AFunc:=⟨67,[.cell 2 true 4,.cell 3 true 2,.cell 4 false 1],yjgQ⟩
theorem zz33_cp:zb Tryz.prog [2,3,4,5,8,17,53] f_zz33=some zz33_F:=by kernel_rfl
abbrev ye3Q:=[
 aI 1 (.gn (.box 64) [(.t 0)]),
 aI 2 (.alloc (zr 8 (.int .u8 0)))]
abbrev ye4Q:=[
 aI 3 (.gd (.arrS 1 64 true true false) [(.t 1),(.c (.int .i64 48)),(.c (.int .i64 56))]),
 aI 4 (.gd (.s2a 8) [(.t 3)]),
 iM 5 8 4,
 iS 8 2 5]
abbrev yjhQ:ACode:=iJq ye3Q (iJq ye4Q (.ret))
def zz93_F:AFunc:=⟨6,[.cell 2 true 8],yjhQ⟩
theorem zz93_cp:zb Tryz.prog [1] f_zz93=some zz93_F:=by kernel_rfl
abbrev ye5Q:=[
 aI 2 (.box 2 (.t 0)),
 aI 4 (.alloc (zr 64 (.int .u8 0)))]
abbrev ye6Q:=[
 aI 5 (.gn (.alloc (zr 64 (.int .u8 0))) [])]
abbrev ye7Q:=[
 aI 6 (.gd (.arrS 1 64 false false false) [(.t 5)]),
 aI 7 (.gd .copyS [(.t 6),(.c (.str [81,85,73,69,84,74,78,76]))])]
abbrev ye8Q:=[
 aI 8 (.gd (.arrS 1 64 true false false) [(.t 5),(.c (.int .i64 8))]),
 iD 9 0 2,
 iP 10 1 9 2,
 iV 11 f_zz103 8 10 2]
abbrev ye9Q:=[
 aI 12 (.gd (.arrS 1 64 true false false) [(.t 5),(.c (.int .i64 12))]),
 iD 13 1 2,
 iP 14 1 13 2,
 iV 15 f_zz103 12 14 2]
abbrev yfaQ:=[
 aM 16 1,
 aI 17 (.mkslice 1 1 (.int .i64 0) [(0,(.t 16))]),
 iC 18 f_zz104 [(.t 5),(.c (.int .i64 129)),(.t 17)] 0]
abbrev yfbQ:=[
 iM 19 64 5,
 iS 64 4 19]
abbrev yjiQ:ACode:=iJq ye5Q (iJq ye6Q (iJq ye7Q (.seq (.reg true ye8Q) (.seq (.reg true ye9Q) (iJq yfaQ (iJq yfbQ (.ret)))))))
def zz42_F:AFunc:=⟨20,[.cell 4 true 64],yjiQ⟩
theorem zz42_cp:zb Tryz.prog [5] f_zz42=some zz42_F:=by kernel_rfl
-- loop 0: [1, 2, 3, 4, 13, 14]
abbrev yfcQ:=[
 aI 1 (.gn (.box 1) [(.t 0)])]
abbrev yfdQ:=[
 aI 2 (.gn (.alloc [(.str [])]) []),
 aI 3 (.gn (.alloc [(.int .i64 0)]) []),
 aS (.store 1 (.t 2) (.c (.str [])) .any),
 aS (.store 1 (.t 3) (.c (.int .i64 0)) .any)]
abbrev yfeQ:=[
 iL 7 1 1,
 iN 8 7,
 iD 9 7 8,
 iM 10 8 9,
 aI 4 (.gn (.alloc (zr 8 (.int .u8 0))) []),
 iS 8 4 10]
abbrev yffQ:=[
 iL 11 1 1,
 iU 12 f_zz30 11 0]
abbrev yfgQ:=[
 aI 5 (.alloc ([(.int .i64 0),(.int .i64 0)]++zr 40 (.int .u8 0))),
 iS 42 5 13]
abbrev yfhQ:=[
 aI 6 (.alloc (zr 8 (.int .u8 0))),
 iS 8 6 14]
abbrev yfiQ:=[
 iM 15 42 5,
 iU 16 f_zz16 15 0]
abbrev yfjQ:=[
 aS (.store 1 (.t 2) (.c (.str [])) .any)]
abbrev yfkQ:=[
 iG 17 1 2,
 iQ 18 42 5 5,
 iU 19 f_zz12 18 1,
 iB 20 .add 17 19,
 aS (.store 1 (.t 2) (.t 20) .gp)]
abbrev yflQ:=[
 iL 21 1 3,
 iK 22 .add 21 .i64 1,
 iS 1 3 22]
abbrev w4Q:=[
 iM 23 42 5,
 iU 24 f_zz31 23 0]
abbrev w5Q:=[
 iG 25 1 1,
 iG 26 1 1,
 iG 27 1 1,
 iN 28 27,
 iD 29 15 28,
 iG 30 1 29,
 iG 31 1 2,
 aI 32 (.mkslice 1 1 (.str []) [(0,(.t 31))]),
 iG 34 1 3,
 iQ 35 8 6 6,
 aI 33 (.kp [(.ld false 1 (.t 1)),(.ld false 1 (.t 1)),(.ld false 1 (.t 3))] (.appG 1 16 [(.str [])] (.t 30) (.t 32))),
 iN 36 25,
 iD 37 15 36,
 aS (.kp [(.ld false 1 (.t 1)),(.ld false 1 (.t 3))] (.store 1 (.t 37) (.t 33) .gp)),
 iN 38 26,
 iD 39 6 38,
 aS (.store 1 (.t 39) (.t 34) .gp),
 aS (.store 8 (.t 4) (.t 35) .gp)]
abbrev zbm:ACode:=iJq yfgQ (.reg false yfhQ)
abbrev journal_Journal_scan_y0b:ACode:=.block 1 (.seq (iJq yfiQ (.cond (.t 16) (.reg false yfjQ) (.skip))) (.seq (.reg true yfkQ) (iJq yflQ (iJq w4Q (.cond (.t 24) (.reg true w5Q) (.skip))))))
abbrev w6Q:=[
 iL 40 1 1,
 iM 41 8 4,
 iN 42 40,
 iD 43 7 42,
 iS 8 43 41]
abbrev yjjQ:ACode:=iJq yfcQ (iJq yfdQ (iJq yfeQ (.seq (iJq yffQ (.block 0 (.rangeF (.t 12) [13,14] zbm journal_Journal_scan_y0b))) (.reg false w6Q))))
def zz37_F:AFunc:=⟨44,[],yjjQ⟩
theorem zz37_cp:zb Tryz.prog [1,2,3,4,33] f_zz37=some zz37_F:=by kernel_rfl
abbrev yfmQ:=[
 aI 6 (.alloc [.nilP,(.int .i64 0),(.int .i64 0),(.int .i64 0),(.int .i64 0),(.int .i64 0),(.str []),(.int .i64 0),.nilS]),
 iI 7 .i64 0]
abbrev yfnQ:=[
 aM 8 2,
 iK 9 .lss 8 .i64 8,
 aM 10 9,
 aF 11 10 (.mv false (.t 1)),
 aF 12 10 (.bin .lss (.t 11) (.c (.int .i64 0))),
 iO 13 10 12,
 aM 14 13,
 aF 15 14 (.mv false (.t 1)),
 aF 16 14 (.mv false (.t 0)),
 aF 17 14 (.nilck (.t 16)),
 aF 18 14 (.faddr 0 (.t 17)),
 aF 19 14 (.load false 1 (.t 18) .any),
 aF 20 14 (.len false (.t 19)),
 aF 21 14 (.bin .gtr (.t 15) (.t 20)),
 iO 22 14 21,
 aM 23 22,
 aF 24 23 (.mv false (.t 2)),
 aF 25 23 (.mv false (.t 0)),
 aF 26 23 (.nilck (.t 25)),
 aF 27 23 (.faddr 0 (.t 26)),
 aF 28 23 (.load false 1 (.t 27) .any),
 aF 29 23 (.len false (.t 28)),
 aF 30 23 (.mv false (.t 1)),
 aF 31 23 (.bin .sub (.t 29) (.t 30)),
 aF 32 23 (.bin .gtr (.t 24) (.t 31)),
 iO 33 23 32]
abbrev yfoQ:=[
 aI 34 (.build [.nilP,(.int .i64 0),(.int .i64 0),(.int .i64 0),(.int .i64 0),(.int .i64 0),(.str []),(.int .i64 0),.nilS] []),
 iS 9 6 34,
 iI 7 .i64 1]
abbrev yfpQ:=[
 aM 35 0,
 iN 36 35,
 iD 37 3 36,
 iL 38 1 37]
abbrev yfqQ:=[
 aI 39 (.build [.nilP,(.int .i64 0),(.int .i64 0),(.int .i64 0),(.int .i64 0),(.int .i64 0),(.str []),(.int .i64 0),.nilS] []),
 iS 9 6 39,
 iI 7 .i64 12]
abbrev yfrQ:=[
 aM 40 0,
 aM 41 1,
 aM 42 2,
 iK 43 .quo 42 .i64 2,
 aI 44 (.build [.nilP,(.int .i64 0),(.int .i64 0),(.int .i64 0),(.int .i64 0),(.int .i64 0),(.str []),(.int .i64 0),.nilS] [(0,1,(.t 40)),(1,1,(.t 41)),(2,1,(.t 43))]),
 iS 9 6 44,
 iI 7 .i64 0]
abbrev yjkQ:ACode:=iJq yfmQ (.seq (iJq yfnQ (.cond (.t 33) (iJq yfoQ (.ret)) (.skip))) (.seq (iJq yfpQ (.cond (.t 38) (iJq yfqQ (.ret)) (.skip))) (iJq yfrQ (.ret))))
def zz70_F:AFunc:=⟨45,[.cell 6 true 9,.tmp 7],yjkQ⟩
theorem zz70_cp:zb Tryz.prog [] f_zz70=some zz70_F:=by kernel_rfl
-- loop 0: [1, 2, 4, 5, 6]
abbrev yjlQ:=[
 aI 2 (.box 9 (.t 0)),
 aI 4 (.alloc ([(.bool false)]++zr 64 (.int .u8 0)++[(.int .i64 0),(.int .i64 0),(.int .i64 0)]))]
abbrev yjmQ:=[
 aI 11 (.build ([(.bool false)]++zr 64 (.int .u8 0)++[(.int .i64 0),(.int .i64 0),(.int .i64 0)]) []),
 aI 5 (.alloc ([(.bool false)]++zr 64 (.int .u8 0)++[(.int .i64 0),(.int .i64 0),(.int .i64 0)])),
 iS 68 5 11]
abbrev yjnQ:=[
 iI 6 .i64 0]
abbrev yjoQ:=[
 aM 12 6,
 iK 13 .lss 12 .i64 2]
abbrev yjpQ:=[
 iD 16 0 2,
 iP 17 1 16 2,
 iQ 18 9 2 2,
 aM 19 1,
 aM 21 6,
 aI 7 (.alloc (zr 64 (.int .u8 0)++[(.int .i64 0)])),
 iV 20 f_zz23 18 19 2,
 iB 22 .add 20 21,
 iV 23 f_zz27 17 22 2,
 aS (.store 65 (.t 7) (.t 23) (.site 7))]
abbrev yjqQ:=[
 iD 24 64 7,
 iL 25 1 24,
 iK 26 .eql 25 .i64 0,
 aM 27 26,
 aT 28 27 (.faddr 0 (.t 7)),
 aT 29 27 (.load true 64 (.t 28) .any),
 aT 30 27 (.mv false (.t 1)),
 aT 31 27 (.call (.c (.fn f_zz35)) [(.t 29),(.t 30)] 0),
 iY 32 27 31,
 aN 8 32]
abbrev yjrQ:=[
 aM 33 8]
abbrev yjsQ:=[
 iD 34 0 7,
 iM 35 64 34,
 iC 36 f_zz71 [(.t 35),(.c (.int .i64 8)),(.c (.int .i64 12))] 0,
 iU 37 f_zz50 36 0,
 aN 9 37]
abbrev yjtQ:=[
 iD 38 0 7,
 iM 39 64 38,
 iC 40 f_zz71 [(.t 39),(.c (.int .i64 12)),(.c (.int .i64 16))] 0,
 iU 41 f_zz50 40 0,
 aN 10 41]
abbrev yjuQ:=[
 iD 42 67 5,
 iL 43 1 42,
 aM 44 10,
 aI 45 (.mx (.t 43) (.t 44)),
 iD 46 67 5,
 iS 1 46 45]
abbrev yfsQ:=[
 iD 47 0 5,
 iL 48 1 47,
 iT 49 48,
 aM 50 49,
 aF 51 50 (.mv false (.t 9)),
 aF 52 50 (.faddr 65 (.t 5)),
 aF 53 50 (.load false 1 (.t 52) .any),
 aF 54 50 (.bin .gtr (.t 51) (.t 53)),
 iO 55 50 54,
 aM 56 55,
 aF 57 56 (.mv false (.t 9)),
 aF 58 56 (.faddr 65 (.t 5)),
 aF 59 56 (.load false 1 (.t 58) .any),
 aF 60 56 (.bin .eql (.t 57) (.t 59)),
 aF 61 56 (.mv false (.t 60)),
 aT 62 61 (.mv false (.t 10)),
 aT 63 61 (.faddr 66 (.t 5)),
 aT 64 61 (.load false 1 (.t 63) .any),
 aT 65 61 (.bin .gtr (.t 62) (.t 64)),
 aF 66 56 (.pick (.t 61) (.t 65) (.c (.bool false))),
 iO 67 56 66]
abbrev yftQ:=[
 iD 68 0 5,
 aS (.store 1 (.t 68) (.c (.bool true)) .any)]
abbrev yfuQ:=[
 iD 69 0 7,
 iM 70 64 69,
 iD 71 1 5,
 iS 64 71 70]
abbrev yfvQ:=[
 aM 72 9,
 iD 73 65 5,
 iS 1 73 72]
abbrev yfwQ:=[
 aM 74 10,
 iD 75 66 5,
 iS 1 75 74]
abbrev yjvQ:ACode:=iJq yftQ (iJq yfuQ (iJq yfvQ (.reg false yfwQ)))
abbrev yjwQ:ACode:=iJq yjsQ (iJq yjtQ (iJq yjuQ (iJq yfsQ (.cond (.t 67) (yjvQ) (.skip)))))
abbrev yfxQ:=[
 aM 14 6,
 iK 15 .add 14 .i64 1,
 aN 6 15]
abbrev yjxQ:ACode:=.seq (iJq yjoQ (.cond (.t 13) (.skip) (.exit 0))) (.seq (.block 1 (.seq (.reg true yjpQ) (iJq yjqQ (iJq yjrQ (.cond (.t 33) (yjwQ) (.skip)))))) (.reg false yfxQ))
abbrev yfyQ:=[
 iM 76 68 5,
 iS 68 4 76]
abbrev ykSQ:ACode:=iJq yjlQ (iJq yjmQ (.seq (iJq yjnQ (.block 0 (.loop yjxQ))) (iJq yfyQ (.ret))))
def zz3_F:AFunc:=⟨77,[.cell 4 true 68],ykSQ⟩
theorem zz3_cp:zb Tryz.prog [] f_zz3=some zz3_F:=by kernel_rfl
abbrev yjyQ:=[
 aI 1 (.box 9 (.t 0)),
 iI 2 .i64 0]
abbrev yjzQ:=[
 iM 7 9 1,
 iC 8 f_zz3 [(.t 7),(.c (.int .i64 0))] 0,
 aI 3 (.alloc ([(.bool false)]++zr 64 (.int .u8 0)++[(.int .i64 0),(.int .i64 0),(.int .i64 0)])),
 iS 68 3 8]
abbrev yjAQ:=[
 iM 9 9 1,
 iC 10 f_zz3 [(.t 9),(.c (.int .i64 1))] 0,
 aI 4 (.alloc ([(.bool false)]++zr 64 (.int .u8 0)++[(.int .i64 0),(.int .i64 0),(.int .i64 0)])),
 iS 68 4 10]
abbrev yjBQ:=[
 iD 11 67 3,
 iP 12 1 11 3,
 iQ 13 9 1 1,
 iC 14 f_zz1 [(.t 13),(.c (.int .i64 0))] 2,
 aI 15 (.mx (.t 12) (.t 14)),
 aN 5 15]
abbrev yjCQ:=[
 iD 16 67 4,
 iP 17 1 16 4,
 iQ 18 9 1 1,
 iC 19 f_zz1 [(.t 18),(.c (.int .i64 1))] 2,
 aI 20 (.mx (.t 17) (.t 19)),
 aN 6 20]
abbrev yjDQ:=[
 aM 21 5,
 aM 22 6,
 aI 23 (.mx (.t 21) (.t 22)),
 aI 24 (.bin .add (.c (.int .i64 1)) (.t 23)),
 aN 2 24]
abbrev ykTQ:ACode:=iJq yjyQ (iJq yjzQ (iJq yjAQ (.seq (.reg true yjBQ) (.seq (.reg true yjCQ) (iJq yjDQ (.ret))))))
def zz2_F:AFunc:=⟨25,[.tmp 2],ykTQ⟩
theorem zz2_cp:zb Tryz.prog [] f_zz2=some zz2_F:=by kernel_rfl
-- loop 0: [2, 3, 7, 8]
abbrev yfzQ:=[
 aI 3 (.box 64 (.t 0)),
 aI 6 (.mv true (.c (.str [])))]
abbrev yfAQ:=[
 aI 7 (.mv true (.c .nilS))]
abbrev yfBQ:=[
 aM 9 1,
 aN 8 9]
abbrev yfCQ:=[
 aM 10 8,
 aM 11 2,
 iB 12 .lss 10 11]
abbrev yfDQ:=[
 aN 15 7,
 aM 16 8,
 iA 17 64 1 3 16,
 iL 18 1 17,
 aI 19 (.mkslice 1 1 (.int .u8 0) [(0,(.t 18))]),
 aI 20 (.append 1 1 (.t 15) (.t 19)),
 aN 7 20]
abbrev yfEQ:=[
 aM 13 8,
 iK 14 .add 13 .i64 1,
 aN 8 14]
abbrev yfFQ:ACode:=.seq (iJq yfCQ (.cond (.t 12) (.skip) (.exit 0))) (.seq (.block 1 (.reg false yfDQ)) (.reg false yfEQ))
abbrev yfGQ:=[
 aM 21 7,
 aI 22 (.b2s (.t 21)),
 aN 6 22]
abbrev yjEQ:ACode:=iJq yfzQ (iJq yfAQ (.seq (iJq yfBQ (.block 0 (.loop yfFQ))) (iJq yfGQ (.ret))))
def zz71_F:AFunc:=⟨23,[.tmp 6],yjEQ⟩
theorem zz71_cp:zb Tryz.prog [] f_zz71=some zz71_F:=by kernel_rfl
-- loop 0: [1, 2, 3, 4, 5, 6]
abbrev yfHQ:=[
 aI 1 (.box 9 (.t 0)),
 aI 2 (.alloc [.nilP,(.int .i64 0),(.int .i64 0),(.int .i64 0),(.int .i64 0),(.int .i64 0),(.str []),(.int .i64 0),.nilS])]
abbrev yfIQ:=[
 iD 9 6 1,
 iL 10 1 9,
 aN 3 10]
abbrev yfJQ:=[
 aI 4 (.mv true (.c (.str [])))]
abbrev yfKQ:=[
 aI 5 (.mv true (.c (.bool true)))]
abbrev yfLQ:=[
 iI 6 .i64 0]
abbrev yfMQ:=[
 aM 11 6,
 iM 12 9 1,
 iU 13 f_zz7 12 0,
 iB 14 .lss 11 13]
abbrev yfNQ:=[
 iM 18 9 1,
 aM 19 6,
 aM 20 3,
 aM 21 5,
 iC 22 f_zz4 [(.t 18),(.t 19),(.t 20),(.t 21)] 0,
 aM 17 22,
 iX 23 17 0,
 iX 24 17 1,
 aI 7 (.alloc (zr 64 (.int .u8 0))),
 iS 64 7 23,
 aN 8 24]
abbrev yfOQ:=[
 aM 25 8,
 iT 26 25]
abbrev yfPQ:=[
 iM 27 9 1,
 iS 9 2 27]
abbrev yfQQ:=[
 iM 28 64 7,
 iU 29 f_zz77 28 0,
 aN 3 29]
abbrev w7Q:=[
 aM 30 5]
abbrev w8Q:=[
 aI 4 (.mv true (.c (.str [])))]
abbrev w9Q:=[
 aM 31 4,
 iM 32 64 7,
 iEq 33 64 1 7 25,
 iL 34 1 33,
 aI 35 (.conv .i64 (.t 34)),
 aI 36 (.bin .add (.c (.int .i64 26)) (.t 35)),
 iC 37 f_zz71 [(.t 32),(.c (.int .i64 26)),(.t 36)] 0,
 iB 38 .add 31 37,
 aN 4 38]
abbrev vaQ:=[
 iEq 39 64 1 7 24,
 iL 40 1 39,
 iK 41 .eql 40 .u8 2,
 aM 42 41,
 aF 43 42 (.iaddrA 64 1 (.t 7) (.c (.int .i64 24))),
 aF 44 42 (.load false 1 (.t 43) .any),
 aF 45 42 (.bin .eql (.t 44) (.c (.int .u8 3))),
 iO 46 42 45,
 aN 5 46]
abbrev vbQ:=[
 aM 47 5]
abbrev vcQ:=[
 aI 48 (.mkslice 1 0 (.str []) []),
 iD 49 8 1,
 iL 50 1 49,
 aI 51 (.append 1 16 (.t 48) (.t 50)),
 aM 52 4,
 aI 53 (.mkslice 1 1 (.str []) [(0,(.t 52))]),
 aI 54 (.append 1 16 (.t 51) (.t 53)),
 iD 55 8 1,
 iS 1 55 54]
abbrev vdQ:=[
 aM 56 6,
 iK 57 .add 56 .i64 1,
 iD 58 7 1,
 iS 1 58 57]
abbrev veQ:=[
 aM 59 3,
 iD 60 6 1,
 iS 1 60 59]
abbrev yfRQ:ACode:=iJq vcQ (iJq vdQ (.reg false veQ))
abbrev vfQ:=[
 aM 15 6,
 iK 16 .add 15 .i64 1,
 aN 6 16]
abbrev yfSQ:ACode:=.seq (iJq yfMQ (.cond (.t 14) (.skip) (.exit 0))) (.seq (.block 1 (iJq yfNQ (.seq (iJq yfOQ (.cond (.t 26) (iJq yfPQ (.ret)) (.skip))) (iJq yfQQ (.seq (iJq w7Q (.cond (.t 30) (.reg false w8Q) (.skip))) (iJq w9Q (iJq vaQ (iJq vbQ (.cond (.t 47) (yfRQ) (.skip)))))))))) (.reg false vfQ))
abbrev vgQ:=[
 iM 61 9 1,
 iS 9 2 61]
abbrev yjFQ:ACode:=iJq yfHQ (iJq yfIQ (iJq yfJQ (iJq yfKQ (.seq (iJq yfLQ (.block 0 (.loop yfSQ))) (iJq vgQ (.ret))))))
def zz10_F:AFunc:=⟨62,[.cell 2 true 9],yjFQ⟩
theorem zz10_cp:zb Tryz.prog [] f_zz10=some zz10_F:=by kernel_rfl
-- loop 0: [1, 5, 7, 13]
abbrev yfTQ:=[
 aI 3 (.box 3 (.t 0)),
 aI 5 (.box 64 (.t 2)),
 iI 6 .i64 0]
abbrev yfUQ:=[
 iD 10 0 3,
 iL 11 1 10,
 aI 12 (.gd (.bnd f_zz80) [(.t 11)]),
 aN 7 12]
abbrev yfVQ:=[
 aI 13 (.mv false (.c (.int .i64 0)))]
abbrev yfWQ:=[
 iK 14 .lss 13 .i64 2]
abbrev yfXQ:=[
 aM 15 13,
 aN 8 15]
abbrev yfYQ:=[
 aM 16 7,
 aM 17 1,
 aM 18 8,
 iB 19 .add 17 18,
 iM 20 64 5,
 aI 21 (.call (.t 16) [(.t 19),(.t 20)] 0),
 aN 9 21]
abbrev yfZQ:=[
 aM 22 9,
 iK 23 .neq 22 .i64 0]
abbrev yf0Q:=[
 aM 24 9,
 aN 6 24]
abbrev yf1Q:=[
 iK 25 .add 13 .i64 1,
 aM 13 25]
abbrev yf2Q:ACode:=iJq yfWQ (.seq (.cond (.t 14) (.skip) (.exit 0)) (.seq (.block 1 (iJq yfXQ (iJq yfYQ (iJq yfZQ (.cond (.t 23) (iJq yf0Q (.ret)) (.skip)))))) (.reg false yf1Q)))
abbrev yf3Q:=[
 iI 6 .i64 0]
abbrev yjGQ:ACode:=iJq yfTQ (iJq yfUQ (.seq (iJq yfVQ (.block 0 (.loop yf2Q))) (iJq yf3Q (.ret))))
def zz62_F:AFunc:=⟨26,[.tmp 6],yjGQ⟩
theorem zz62_cp:zb Tryz.prog [12] f_zz62=some zz62_F:=by kernel_rfl
abbrev yf4Q:=[
 aI 2 (.box 3 (.t 0)),
 iI 4 .i64 0]
abbrev yf5Q:=[
 iD 5 1 2,
 iL 6 1 5,
 aM 7 1,
 iD 8 2 2,
 iL 9 1 8,
 iB 10 .mul 7 9,
 iB 11 .add 6 10,
 aN 4 11]
abbrev yjHQ:ACode:=iJq yf4Q (iJq yf5Q (.ret))
def zz45_F:AFunc:=⟨12,[.tmp 4],yjHQ⟩
theorem zz45_cp:zb Tryz.prog [] f_zz45=some zz45_F:=by kernel_rfl
abbrev yf6Q:=[
 aI 5 (.box 64 (.t 2)),
 iI 6 .i64 0]
abbrev yf7Q:=[
 aM 8 0,
 aM 9 1,
 iM 10 64 5,
 iW 11 f_zz20 8 9 10 0,
 aN 7 11]
abbrev yf8Q:=[
 aM 12 7,
 iK 13 .neq 12 .i64 0]
abbrev yf9Q:=[
 aM 14 7,
 aN 6 14]
abbrev ygaQ:=[
 aM 15 0,
 aM 16 1,
 iK 17 .add 16 .i64 1,
 iM 18 64 5,
 iW 19 f_zz20 15 17 18 0,
 aN 6 19]
abbrev yjIQ:ACode:=iJq yf6Q (iJq yf7Q (.seq (iJq yf8Q (.cond (.t 13) (iJq yf9Q (.ret)) (.skip))) (iJq ygaQ (.ret))))
def zz60_F:AFunc:=⟨20,[.tmp 6],yjIQ⟩
theorem zz60_cp:zb Tryz.prog [] f_zz60=some zz60_F:=by kernel_rfl
abbrev ygbQ:=[
 aI 2 (.box 9 (.t 0)),
 iI 4 .i64 0]
abbrev ygcQ:=[
 iD 5 1 2,
 iL 6 1 5,
 aM 7 1,
 iD 8 2 2,
 iL 9 1 8,
 iB 10 .mul 7 9,
 iB 11 .add 6 10,
 aN 4 11]
abbrev yjJQ:ACode:=iJq ygbQ (iJq ygcQ (.ret))
def zz23_F:AFunc:=⟨12,[.tmp 4],yjJQ⟩
theorem zz23_cp:zb Tryz.prog [] f_zz23=some zz23_F:=by kernel_rfl
abbrev ygdQ:=[
 aI 6 (.alloc (zr 64 (.int .u8 0)))]
abbrev ygeQ:=[
 iC 8 f_zz59 [] 0,
 aI 9 (.append 1 0 (.c (.str [])) (.t 8)),
 aN 7 9]
abbrev ygfQ:=[
 aN 10 7,
 aM 11 0,
 iU 12 f_zz69 11 0,
 aI 13 (.append 1 1 (.t 10) (.t 12)),
 aM 14 1,
 iU 15 f_zz69 14 0,
 aI 16 (.append 1 1 (.t 13) (.t 15)),
 aN 7 16]
abbrev yggQ:=[
 aN 17 7,
 aI 18 (.append 0 0 (.t 17) (.c (.int .i64 32))),
 aN 7 18]
abbrev yghQ:=[
 aM 19 7,
 aM 20 7,
 aI 21 (.b2s (.t 20)),
 aM 22 2,
 iV 23 f_zz11 21 22 0,
 iV 24 f_zz51 19 23 0,
 iS 64 6 24]
abbrev yjKQ:ACode:=iJq ygdQ (iJq ygeQ (iJq ygfQ (iJq yggQ (iJq yghQ (.ret)))))
def zz49_F:AFunc:=⟨25,[.cell 6 true 64],yjKQ⟩
theorem zz49_cp:zb Tryz.prog [9,18] f_zz49=some zz49_F:=by kernel_rfl
abbrev ygiQ:=[
 iI 2 .i64 0]
abbrev ygjQ:=[
 aM 3 0,
 iN 4 3,
 iD 5 0 4,
 iH 6 3 5,
 aM 8 0,
 iN 9 8,
 iD 10 6 9,
 iG 11 1 10,
 iU 7 f_zz54 6 1,
 iB 12 .sub 7 11,
 aN 2 12]
abbrev yjLQ:ACode:=iJq ygiQ (.seq (.reg true ygjQ) (.ret))
def zz36_F:AFunc:=⟨13,[.tmp 2],yjLQ⟩
theorem zz36_cp:zb Tryz.prog [] f_zz36=some zz36_F:=by kernel_rfl
abbrev ygkQ:=[
 aI 2 (.mv true (.c (.str [])))]
abbrev yglQ:=[
 aM 3 0,
 aI 4 (.gn (.mkSl 1 1 [(.int .u8 0)]) [(.t 3),(.t 3)]),
 aI 5 (.gd .b2s [(.t 4)]),
 aN 2 5]
abbrev yjMQ:ACode:=iJq ygkQ (iJq yglQ (.ret))
def zz64_F:AFunc:=⟨6,[.tmp 2],yjMQ⟩
theorem zz64_cp:zb Tryz.prog [5] f_zz64=some zz64_F:=by kernel_rfl
abbrev yjNQ:=[
 iI 2 .i64 0]
abbrev yjOQ:=[
 aM 3 0,
 iN 4 3,
 iD 5 3 4,
 iD 6 0 5,
 iL 7 1 6,
 aN 2 7]
abbrev ykUQ:ACode:=iJq yjNQ (iJq yjOQ (.ret))
def zz6_F:AFunc:=⟨8,[.tmp 2],ykUQ⟩
theorem zz6_cp:zb Tryz.prog [] f_zz6=some zz6_F:=by kernel_rfl
-- loop 0: [0, 3]
abbrev vhQ:=[
 aI 2 (.mv true (.c .nilS))]
abbrev viQ:=[
 aI 3 (.mv true (.c .nilS))]
abbrev vjQ:=[
 aM 4 0,
 aI 5 (.len true (.t 4)),
 iK 6 .gtr 5 .i64 30]
abbrev vkQ:=[
 aN 7 3,
 aM 8 0,
 aI 9 (.slS (.t 8) none (some (.c (.int .i64 30)))),
 aI 10 (.mkslice 1 1 (.str []) [(0,(.t 9))]),
 aI 11 (.append 1 16 (.t 7) (.t 10)),
 aN 3 11]
abbrev vlQ:=[
 aM 12 0,
 aI 13 (.slS (.t 12) (some (.c (.int .i64 30))) none),
 aN 0 13]
abbrev vmQ:ACode:=.seq (iJq vjQ (.cond (.t 6) (.skip) (.exit 0))) (.block 1 (iJq vkQ (.reg false vlQ)))
abbrev vnQ:=[
 aN 14 3,
 aM 15 0,
 aI 16 (.mkslice 1 1 (.str []) [(0,(.t 15))]),
 aI 17 (.append 1 16 (.t 14) (.t 16)),
 aN 2 17]
abbrev ygmQ:ACode:=iJq vhQ (iJq viQ (.seq (.block 0 (.loop vmQ)) (iJq vnQ (.ret))))
def zz105_F:AFunc:=⟨18,[.tmp 2],ygmQ⟩
theorem zz105_cp:zb Tryz.prog [] f_zz105=some zz105_F:=by kernel_rfl
-- loop 0: [0, 1, 5, 13, 14, 15]
abbrev ygnQ:=[
 iI 4 .i64 0]
abbrev ygoQ:=[
 aM 11 1,
 iU 12 f_zz105 11 0,
 aN 5 12]
abbrev ygpQ:=[
 aM 13 5,
 iZ 14 13,
 aI 15 (.mv false (.c (.int .i64 0)))]
abbrev ygqQ:=[
 iB 16 .lss 15 14]
abbrev ygrQ:=[
 aM 17 15,
 iR 18 1 13 15,
 iL 19 1 18,
 aN 6 17,
 aN 7 19]
abbrev ygsQ:=[
 aM 20 0,
 iN 21 20,
 iD 22 3 21,
 iH 23 2 22,
 aM 24 0,
 iN 25 24,
 iD 26 7 25,
 iH 27 8 26,
 aM 28 7,
 aM 29 6,
 iK 30 .eql 29 .i64 0,
 aM 31 6,
 aM 32 5,
 iZ 33 32,
 iK 34 .sub 33 .i64 1,
 iB 35 .eql 31 34,
 aI 8 (.alloc ([(.int .i64 0),(.int .i64 0)]++zr 40 (.int .u8 0))),
 iC 36 f_zz43 [(.t 23),(.t 27),(.t 28),(.t 30),(.t 35)] 1,
 aS (.store 42 (.t 8) (.t 36) (.site 8))]
abbrev ygtQ:=[
 iQ 37 42 8 8,
 aM 38 0,
 iN 39 38,
 iD 40 5 39,
 iG 41 1 40,
 aM 42 0,
 iN 43 42,
 iD 44 6 43,
 iG 45 1 44,
 aI 9 (.alloc (zr 64 (.int .u8 0))),
 iW 46 f_zz17 37 41 45 1,
 aS (.store 64 (.t 9) (.t 46) (.site 9))]
abbrev yguQ:=[
 aM 47 0,
 iN 48 47,
 iD 49 0 48,
 iH 50 3 49,
 aM 51 0,
 iN 52 51,
 iD 53 0 52,
 iH 54 3 53,
 aM 55 0,
 iN 56 55,
 iD 57 5 56,
 iG 58 1 57,
 aM 59 0,
 iN 60 59,
 iD 61 6 60,
 iG 62 1 61,
 iQ 64 64 9 9,
 iW 63 f_zz63 54 58 62 1,
 iW 65 f_zz62 50 63 64 2,
 aN 10 65]
abbrev ygvQ:=[
 aM 66 10,
 iK 67 .neq 66 .i64 0]
abbrev ygwQ:=[
 aM 68 10,
 aN 4 68]
abbrev voQ:=[
 aM 69 0,
 iM 70 64 9,
 iU 71 f_zz99 70 0,
 iN 72 69,
 iD 73 7 72,
 iS 8 73 71]
abbrev vpQ:=[
 aM 74 0,
 iN 75 74,
 iD 76 6 75,
 iL 77 1 76,
 iK 78 .add 77 .i64 1,
 iN 79 74,
 iD 80 6 79,
 iS 1 80 78]
abbrev vqQ:=[
 iK 81 .add 15 .i64 1,
 aM 15 81]
abbrev ygxQ:ACode:=iJq ygqQ (.seq (.cond (.t 16) (.skip) (.exit 0)) (.seq (.block 1 (iJq ygrQ (.seq (.reg true ygsQ) (.seq (.reg true ygtQ) (.seq (.seq (.reg true yguQ) (iJq ygvQ (.cond (.t 67) (iJq ygwQ (.ret)) (.skip)))) (iJq voQ (.reg false vpQ))))))) (.reg false vqQ)))
abbrev vrQ:=[
 aM 82 0,
 aM 83 0,
 iN 84 83,
 iD 85 15 84,
 iL 86 1 85,
 aM 87 1,
 aI 88 (.mkslice 1 1 (.str []) [(0,(.t 87))]),
 aI 89 (.appG 1 16 [(.str [])] (.t 86) (.t 88)),
 iN 90 82,
 iD 91 15 90,
 iS 1 91 89]
abbrev vsQ:=[
 iI 4 .i64 0]
abbrev yjPQ:ACode:=iJq ygnQ (iJq ygoQ (.seq (iJq ygpQ (.block 0 (.loop ygxQ))) (iJq vrQ (iJq vsQ (.ret)))))
def zz41_F:AFunc:=⟨92,[.tmp 4],yjPQ⟩
theorem zz41_cp:zb Tryz.prog [65,89] f_zz41=some zz41_F:=by kernel_rfl
abbrev ygyQ:=[
 aI 1 (.box 3 (.t 0)),
 iI 2 .i64 0]
abbrev ygzQ:=[
 iD 3 2 1,
 iL 4 1 3,
 iK 5 .quo 4 .i64 2,
 iK 6 .sub 5 .i64 1,
 aN 2 6]
abbrev yjQQ:ACode:=iJq ygyQ (iJq ygzQ (.ret))
def zz54_F:AFunc:=⟨7,[.tmp 2],yjQQ⟩
theorem zz54_cp:zb Tryz.prog [] f_zz54=some zz54_F:=by kernel_rfl
abbrev yjRQ:=[
 aI 2 (.mv true (.c .nilS))]
abbrev yjSQ:=[
 aM 3 0,
 aI 4 (.isnil false (.t 3))]
abbrev yjTQ:=[
 aI 2 (.mv true (.c .nilS))]
abbrev yjUQ:=[
 aI 5 (.mkG 1 0 (.str []) []),
 aM 6 0,
 aI 7 (.appG 1 16 [(.str [])] (.t 5) (.t 6)),
 aN 2 7]
abbrev ykVQ:ACode:=iJq yjRQ (.seq (iJq yjSQ (.cond (.t 4) (iJq yjTQ (.ret)) (.skip))) (iJq yjUQ (.ret)))
def zz8_F:AFunc:=⟨8,[.tmp 2],ykVQ⟩
theorem zz8_cp:zb Tryz.prog [5,7] f_zz8=some zz8_F:=by kernel_rfl
abbrev ygAQ:=[
 aI 4 (.alloc (zr 16 (.int .u8 0)))]
abbrev ygBQ:=[
 aM 5 0,
 aM 6 1,
 iU 7 f_zz40 6 0,
 aI 8 (.mkslice 1 2 (.str []) [(0,(.t 5)),(1,(.t 7))]),
 iC 9 f_zz84 [(.c (.int .i64 129)),(.t 8)] 0,
 iS 16 4 9]
abbrev yjVQ:ACode:=iJq ygAQ (iJq ygBQ (.ret))
def zz11_F:AFunc:=⟨10,[.cell 4 true 16],yjVQ⟩
theorem zz11_cp:zb Tryz.prog [] f_zz11=some zz11_F:=by kernel_rfl
abbrev ygCQ:=[
 aI 0 (.mv true (.c (.str [])))]
abbrev ygDQ:=[
 aI 0 (.mv true (.c (.str [81,85,73,69,84,74,78,76])))]
abbrev yjWQ:ACode:=iJq ygCQ (iJq ygDQ (.ret))
def zz59_F:AFunc:=⟨1,[.tmp 0],yjWQ⟩
theorem zz59_cp:zb Tryz.prog [] f_zz59=some zz59_F:=by kernel_rfl
abbrev yjXQ:=[
 aI 6 (.alloc (zr 16 (.int .u8 0)))]
abbrev yjYQ:=[
 aM 7 0,
 aM 8 1,
 iU 9 f_zz40 8 0,
 aM 10 2,
 iU 11 f_zz40 10 0,
 aI 12 (.mkslice 1 3 (.str []) [(0,(.t 7)),(1,(.t 9)),(2,(.t 11))]),
 iC 13 f_zz84 [(.c (.int .i64 130)),(.t 12)] 0,
 iS 16 6 13]
abbrev ykWQ:ACode:=iJq yjXQ (iJq yjYQ (.ret))
def zz5_F:AFunc:=⟨14,[.cell 6 true 16],ykWQ⟩
theorem zz5_cp:zb Tryz.prog [] f_zz5=some zz5_F:=by kernel_rfl
abbrev ygEQ:=[
 aI 1 (.box 64 (.t 0)),
 aI 2 (.mv true (.c (.str [])))]
abbrev ygFQ:=[
 iQ 3 64 1 1,
 iQ 5 64 1 1,
 iC 4 f_zz71 [(.t 3),(.c (.int .i64 16)),(.c (.int .i64 24))] 2,
 iC 6 f_zz71 [(.t 5),(.c (.int .i64 56)),(.c (.int .i64 64))] 2,
 iB 7 .add 4 6,
 aN 2 7]
abbrev yjZQ:ACode:=iJq ygEQ (.seq (.reg true ygFQ) (.ret))
def zz77_F:AFunc:=⟨8,[.tmp 2],yjZQ⟩
theorem zz77_cp:zb Tryz.prog [] f_zz77=some zz77_F:=by kernel_rfl
abbrev ygGQ:=[
 aI 3 (.gn (.box 3) [(.t 0)]),
 aI 4 (.gn (.box 1) [(.t 1)]),
 aI 5 (.gn (.box 1) [(.t 2)]),
 aI 6 (.mv true (.c .nilF))]
abbrev ygHQ:=[
 aI 7 (.gd (.clo f_zz32) [(.t 3),(.t 4),(.t 5)]),
 aN 6 7]
abbrev yj0Q:ACode:=iJq ygGQ (iJq ygHQ (.ret))
def zz44_F:AFunc:=⟨8,[.tmp 6],yj0Q⟩
theorem zz44_cp:zb Tryz.prog [3,4,5,7] f_zz44=some zz44_F:=by kernel_rfl
abbrev ygIQ:=[
 aI 2 (.box 64 (.t 0)),
 aI 3 (.mv true (.c (.bool false)))]
abbrev ygJQ:=[
 iM 4 64 2,
 iL 5 1 1,
 iV 6 f_zz92 4 5 0,
 aN 3 6]
abbrev yj1Q:ACode:=iJq ygIQ (iJq ygJQ (.ret))
def zz18_F:AFunc:=⟨7,[.tmp 3],yj1Q⟩
theorem zz18_cp:zb Tryz.prog [] f_zz18=some zz18_F:=by kernel_rfl
abbrev ygKQ:=[
 aI 2 (.gn (.box 64) [(.t 0)]),
 aI 4 (.mv true (.c (.bool false)))]
abbrev ygLQ:=[
 aI 5 (.gd (.arrS 1 64 false true false) [(.t 2),(.c (.int .i64 8))]),
 aI 6 (.gd .b2s [(.t 5)]),
 aI 7 (.bin .eql (.t 6) (.c (.str [81,85,73,69,84,74,78,76]))),
 aM 8 7,
 aT 9 8 (.load true 64 (.t 2) .any),
 aT 10 8 (.mv false (.t 1)),
 aT 11 8 (.mkslice 1 1 (.int .i64 0) [(0,(.t 10))]),
 aT 12 8 (.call (.c (.fn f_zz72)) [(.t 9),(.c (.int .i64 129)),(.t 11)] 0),
 iY 13 8 12,
 aN 4 13]
abbrev yj2Q:ACode:=iJq ygKQ (iJq ygLQ (.ret))
def zz92_F:AFunc:=⟨14,[.tmp 4],yj2Q⟩
theorem zz92_cp:zb Tryz.prog [2,6] f_zz92=some zz92_F:=by kernel_rfl
abbrev ygMQ:=[
 aI 1 (.gn (.box 64) [(.t 0)]),
 aI 2 (.alloc [(.int .i64 0),(.int .i64 0)])]
abbrev ygNQ:=[
 aI 3 (.gd (.arrS 1 64 true false false) [(.t 1),(.c (.int .i64 8))]),
 aI 5 (.gd (.arrS 1 64 true false false) [(.t 1),(.c (.int .i64 12))]),
 iU 4 f_zz102 3 2,
 iU 6 f_zz102 5 2,
 aI 7 (.build [(.int .i64 0),(.int .i64 0)] [(0,1,(.t 4)),(1,1,(.t 6))]),
 aS (.store 2 (.t 2) (.t 7) (.site 2))]
abbrev yj3Q:ACode:=iJq ygMQ (.seq (.reg true ygNQ) (.ret))
def zz73_F:AFunc:=⟨8,[.cell 2 true 2],yj3Q⟩
theorem zz73_cp:zb Tryz.prog [1] f_zz73=some zz73_F:=by kernel_rfl
abbrev ygOQ:=[
 aI 2 (.box 2 (.t 0)),
 aI 3 (.box 2 (.t 1)),
 iI 4 .i64 0]
abbrev ygPQ:=[
 iD 5 0 2,
 iP 6 1 5 2,
 iD 7 0 3,
 iP 8 1 7 3,
 iD 10 1 2,
 iP 11 1 10 2,
 iD 12 1 3,
 iP 13 1 12 3,
 iV 9 f_zz78 6 8 2,
 iV 14 f_zz78 11 13 2,
 aI 15 (.mkslice 1 2 (.int .i64 0) [(0,(.t 9)),(1,(.t 14))]),
 iU 16 f_zz107 15 2,
 aN 4 16]
abbrev yj4Q:ACode:=iJq ygOQ (.seq (.reg true ygPQ) (.ret))
def zz38_F:AFunc:=⟨17,[.tmp 4],yj4Q⟩
theorem zz38_cp:zb Tryz.prog [] f_zz38=some zz38_F:=by kernel_rfl
abbrev ygQQ:=[
 aI 3 (.box 3 (.t 0)),
 iI 6 .i64 0]
abbrev ygRQ:=[
 iM 7 3 3,
 aM 8 1,
 iV 9 f_zz45 7 8 0,
 iK 10 .add 9 .i64 2,
 aM 11 2,
 aI 12 (.bin .mul (.c (.int .i64 2)) (.t 11)),
 iB 13 .add 10 12,
 aN 6 13]
abbrev yj5Q:ACode:=iJq ygQQ (iJq ygRQ (.ret))
def zz63_F:AFunc:=⟨14,[.tmp 6],yj5Q⟩
theorem zz63_cp:zb Tryz.prog [] f_zz63=some zz63_F:=by kernel_rfl
abbrev ygSQ:=[
 aI 3 (.box 64 (.t 0)),
 aI 4 (.mv true (.c (.bool false)))]
abbrev ygTQ:=[
 iM 5 64 3,
 iL 6 1 1,
 iL 7 1 2,
 iW 8 f_zz53 5 6 7 0,
 aN 4 8]
abbrev yj6Q:ACode:=iJq ygSQ (iJq ygTQ (.ret))
def zz19_F:AFunc:=⟨9,[.tmp 4],yj6Q⟩
theorem zz19_cp:zb Tryz.prog [] f_zz19=some zz19_F:=by kernel_rfl
abbrev ygUQ:=[
 aI 3 (.gn (.box 64) [(.t 0)]),
 aI 6 (.mv true (.c (.bool false)))]
abbrev ygVQ:=[
 iM 8 64 3,
 aM 9 1,
 aM 10 2,
 iW 11 f_zz106 8 9 10 0,
 aI 7 (.gn (.alloc (zr 16 (.int .u8 0))) []),
 iS 16 7 11]
abbrev ygWQ:=[
 aI 12 (.gd (.arrS 1 64 true true false) [(.t 3),(.c (.int .i64 16)),(.c (.int .i64 24))]),
 aI 13 (.gd .b2s [(.t 12)]),
 aI 14 (.gd (.arrS 1 64 true false false) [(.t 3),(.c (.int .i64 56))]),
 aI 15 (.gd .b2s [(.t 14)]),
 iB 16 .add 13 15,
 aI 17 (.gd (.arrS 1 16 false false false) [(.t 7)]),
 aI 18 (.gd .b2s [(.t 17)]),
 iB 19 .eql 16 18,
 aN 6 19]
abbrev yj7Q:ACode:=iJq ygUQ (iJq ygVQ (.seq (.reg true ygWQ) (.ret)))
def zz53_F:AFunc:=⟨20,[.tmp 6],yj7Q⟩
theorem zz53_cp:zb Tryz.prog [3,7,13,15,18] f_zz53=some zz53_F:=by kernel_rfl
abbrev ygXQ:=[
 aI 1 (.gn (.box 64) [(.t 0)]),
 aI 2 (.alloc ([(.int .i64 0),(.int .i64 0)]++zr 40 (.int .u8 0)))]
abbrev ygYQ:=[
 aI 3 (.gd (.arrS 1 64 true false false) [(.t 1),(.c (.int .i64 0))]),
 aI 5 (.gd (.arrS 1 64 true false false) [(.t 1),(.c (.int .i64 4))]),
 aI 7 (.gd (.arrS 1 64 true true false) [(.t 1),(.c (.int .i64 8)),(.c (.int .i64 16))]),
 aI 8 (.gd (.s2a 8) [(.t 7)]),
 iH 9 8 8,
 iEq 10 64 1 1 24,
 iG 11 1 10,
 iEq 12 64 1 1 25,
 iG 13 1 12,
 aI 14 (.gd (.arrS 1 64 true true false) [(.t 1),(.c (.int .i64 26)),(.c (.int .i64 56))]),
 aI 15 (.gd (.s2a 30) [(.t 14)]),
 iH 16 30 15,
 iU 4 f_zz102 3 1,
 iU 6 f_zz102 5 1,
 aI 17 (.build ([(.int .i64 0),(.int .i64 0)]++zr 40 (.int .u8 0)) [(0,1,(.t 4)),(1,1,(.t 6)),(2,8,(.t 9)),(10,1,(.t 11)),(11,1,(.t 13)),(12,30,(.t 16))]),
 aS (.store 42 (.t 2) (.t 17) (.site 2))]
abbrev yj8Q:ACode:=iJq ygXQ (.seq (.reg true ygYQ) (.ret))
def zz39_F:AFunc:=⟨18,[.cell 2 true 42],yj8Q⟩
theorem zz39_cp:zb Tryz.prog [1] f_zz39=some zz39_F:=by kernel_rfl
-- loop 0: [0, 1, 5]
abbrev vtQ:=[
 aI 5 (.mv false (.c (.int .i64 0)))]
abbrev vuQ:=[
 iK 6 .lss 5 .i64 4]
abbrev vvQ:=[
 aM 7 5,
 aN 4 7]
abbrev vwQ:=[
 aM 8 0,
 aM 9 4,
 aM 10 1,
 aM 11 4,
 aI 12 (.bin .mul (.c (.int .i64 8)) (.t 11)),
 aI 13 (.bin .sub (.c (.int .i64 24)) (.t 12)),
 iB 14 .shr 10 13,
 aI 15 (.conv .u8 (.t 14)),
 iR 16 1 8 9,
 iS 1 16 15]
abbrev vxQ:=[
 iK 17 .add 5 .i64 1,
 aM 5 17]
abbrev vyQ:ACode:=iJq vuQ (.seq (.cond (.t 6) (.skip) (.exit 0)) (.seq (.block 1 (iJq vvQ (.reg false vwQ))) (.reg false vxQ)))
abbrev ygZQ:ACode:=iJq vtQ (.block 0 (.loop vyQ))
def zz103_F:AFunc:=⟨18,[],ygZQ⟩
theorem zz103_cp:zb Tryz.prog [] f_zz103=some zz103_F:=by kernel_rfl
abbrev vzQ:=[
 aM 7 0,
 iN 8 7,
 iM 9 64 8,
 aM 10 1,
 aM 11 2,
 iW 12 f_zz91 9 10 11 0,
 aI 6 (.gn (.alloc (zr 16 (.int .u8 0))) []),
 iS 16 6 12]
abbrev vAQ:=[
 aM 13 0,
 iN 14 13,
 aI 15 (.gd (.arrS 1 64 true false false) [(.t 14),(.c (.int .i64 48))]),
 aI 16 (.gd (.arrS 1 16 false false false) [(.t 6)]),
 aI 17 (.copy 1 (.t 15) (.t 16))]
abbrev yg0Q:ACode:=iJq vzQ (.reg true vAQ)
def zz104_F:AFunc:=⟨18,[],yg0Q⟩
theorem zz104_cp:zb Tryz.prog [6] f_zz104=some zz104_F:=by kernel_rfl
abbrev yg1Q:=[
 aI 1 (.gn (.box 1) [(.t 0)]),
 aI 2 (.mv true (.c .nilF))]
abbrev yg2Q:=[
 aI 3 (.gd (.clo f_zz15) [(.t 1)]),
 aN 2 3]
abbrev yj9Q:ACode:=iJq yg1Q (iJq yg2Q (.ret))
def zz30_F:AFunc:=⟨4,[.tmp 2],yj9Q⟩
theorem zz30_cp:zb Tryz.prog [1,3] f_zz30=some zz30_F:=by kernel_rfl
abbrev yg3Q:=[
 aI 1 (.box 42 (.t 0)),
 aI 2 (.mv true (.c (.bool false)))]
abbrev yg4Q:=[
 iD 3 10 1,
 iL 4 1 3,
 iK 5 .eql 4 .u8 1,
 aM 6 5,
 aF 7 6 (.faddr 10 (.t 1)),
 aF 8 6 (.load false 1 (.t 7) .any),
 aF 9 6 (.bin .eql (.t 8) (.c (.int .u8 3))),
 iO 10 6 9,
 aN 2 10]
abbrev ykaQ:ACode:=iJq yg3Q (iJq yg4Q (.ret))
def zz16_F:AFunc:=⟨11,[.tmp 2],ykaQ⟩
theorem zz16_cp:zb Tryz.prog [] f_zz16=some zz16_F:=by kernel_rfl
abbrev yg5Q:=[
 aI 1 (.gn (.box 42) [(.t 0)]),
 aI 2 (.mv true (.c (.str [])))]
abbrev yg6Q:=[
 iD 3 12 1,
 iD 4 11 1,
 iL 5 1 4,
 aI 6 (.gd (.arrS 1 30 false true false) [(.t 3),(.t 5)]),
 aI 7 (.gd .b2s [(.t 6)]),
 aN 2 7]
abbrev ykbQ:ACode:=iJq yg5Q (iJq yg6Q (.ret))
def zz12_F:AFunc:=⟨8,[.tmp 2],ykbQ⟩
theorem zz12_cp:zb Tryz.prog [1,7] f_zz12=some zz12_F:=by kernel_rfl
abbrev yg7Q:=[
 aI 1 (.box 42 (.t 0)),
 aI 2 (.mv true (.c (.bool false)))]
abbrev yg8Q:=[
 iD 3 10 1,
 iL 4 1 3,
 iK 5 .eql 4 .u8 2,
 aM 6 5,
 aF 7 6 (.faddr 10 (.t 1)),
 aF 8 6 (.load false 1 (.t 7) .any),
 aF 9 6 (.bin .eql (.t 8) (.c (.int .u8 3))),
 iO 10 6 9,
 aN 2 10]
abbrev ykcQ:ACode:=iJq yg7Q (iJq yg8Q (.ret))
def zz31_F:AFunc:=⟨11,[.tmp 2],ykcQ⟩
theorem zz31_cp:zb Tryz.prog [] f_zz31=some zz31_F:=by kernel_rfl
abbrev yg9Q:=[
 iI 2 .i64 0]
abbrev yhaQ:=[
 aM 3 0,
 aI 4 (.idxS (.t 3) (.c (.int .i64 0))),
 aI 5 (.conv .i64 (.t 4)),
 aI 6 (.bin .mul (.c (.int .i64 16777216)) (.t 5)),
 aM 7 0,
 aI 8 (.idxS (.t 7) (.c (.int .i64 1))),
 aI 9 (.conv .i64 (.t 8)),
 aI 10 (.bin .mul (.c (.int .i64 65536)) (.t 9)),
 iB 11 .add 6 10,
 aM 12 0,
 aI 13 (.idxS (.t 12) (.c (.int .i64 2))),
 aI 14 (.conv .i64 (.t 13)),
 aI 15 (.bin .mul (.c (.int .i64 256)) (.t 14)),
 iB 16 .add 11 15,
 aM 17 0,
 aI 18 (.idxS (.t 17) (.c (.int .i64 3))),
 aI 19 (.conv .i64 (.t 18)),
 iB 20 .add 16 19,
 aN 2 20]
abbrev ykdQ:ACode:=iJq yg9Q (.seq (.reg true yhaQ) (.ret))
def zz50_F:AFunc:=⟨21,[.tmp 2],ykdQ⟩
theorem zz50_cp:zb Tryz.prog [] f_zz50=some zz50_F:=by kernel_rfl
-- loop 0: [1, 2, 5, 6]
abbrev ykeQ:=[
 aI 2 (.box 9 (.t 0)),
 iI 4 .i64 0]
abbrev ykfQ:=[
 iI 5 .i64 0]
abbrev ykgQ:=[
 iI 6 .i64 0]
abbrev ykhQ:=[
 aM 9 6,
 iM 10 9 2,
 iU 11 f_zz7 10 0,
 aI 12 (.bin .mul (.c (.int .i64 2)) (.t 11)),
 iB 13 .lss 9 12]
abbrev ykiQ:=[
 iD 16 0 2,
 iP 17 1 16 2,
 iQ 18 9 2 2,
 aM 19 1,
 aM 22 6,
 aI 7 (.alloc (zr 64 (.int .u8 0)++[(.int .i64 0)])),
 iV 20 f_zz23 18 19 2,
 iK 21 .add 20 .i64 2,
 iB 23 .add 21 22,
 iV 24 f_zz27 17 23 2,
 aS (.store 65 (.t 7) (.t 24) (.site 7))]
abbrev ykjQ:=[
 iD 25 64 7,
 iL 26 1 25,
 iK 27 .eql 26 .i64 0,
 aM 28 27,
 aT 29 28 (.faddr 0 (.t 7)),
 aT 30 28 (.load true 64 (.t 29) .any),
 aT 31 28 (.mv false (.t 1)),
 aT 32 28 (.mv false (.t 6)),
 aT 33 28 (.bin .quo (.t 32) (.c (.int .i64 2))),
 aT 34 28 (.call (.c (.fn f_zz22)) [(.t 30),(.t 31),(.t 33)] 0),
 iY 35 28 34,
 aN 8 35]
abbrev ykkQ:=[
 aM 36 8]
abbrev yklQ:=[
 aM 37 5,
 iD 38 0 7,
 iM 39 64 38,
 iC 40 f_zz71 [(.t 39),(.c (.int .i64 4)),(.c (.int .i64 8))] 0,
 iU 41 f_zz50 40 0,
 aI 42 (.mx (.t 37) (.t 41)),
 aN 5 42]
abbrev ykmQ:=[
 aM 14 6,
 iK 15 .add 14 .i64 1,
 aN 6 15]
abbrev yknQ:ACode:=.seq (iJq ykhQ (.cond (.t 13) (.skip) (.exit 0))) (.seq (.block 1 (.seq (.reg true ykiQ) (iJq ykjQ (iJq ykkQ (.cond (.t 36) (.reg false yklQ) (.skip)))))) (.reg false ykmQ))
abbrev ykoQ:=[
 aM 43 5,
 aN 4 43]
abbrev ykXQ:ACode:=iJq ykeQ (iJq ykfQ (.seq (iJq ykgQ (.block 0 (.loop yknQ))) (iJq ykoQ (.ret))))
def zz1_F:AFunc:=⟨44,[.tmp 4],ykXQ⟩
theorem zz1_cp:zb Tryz.prog [] f_zz1=some zz1_F:=by kernel_rfl
abbrev ykpQ:=[
 aI 1 (.box 9 (.t 0)),
 iI 2 .i64 0]
abbrev ykqQ:=[
 iD 3 2 1,
 iL 4 1 3,
 iK 5 .sub 4 .i64 2,
 iK 6 .quo 5 .i64 2,
 aN 2 6]
abbrev ykYQ:ACode:=iJq ykpQ (iJq ykqQ (.ret))
def zz7_F:AFunc:=⟨7,[.tmp 2],ykYQ⟩
theorem zz7_cp:zb Tryz.prog [] f_zz7=some zz7_F:=by kernel_rfl
-- loop 0: [1, 2, 3, 4, 8, 10, 11, 12]
abbrev ykrQ:=[
 aI 4 (.box 9 (.t 0)),
 aI 8 (.alloc (zr 64 (.int .u8 0))),
 aI 9 (.mv true (.c (.bool false)))]
abbrev yksQ:=[
 aI 16 (.build (zr 64 (.int .u8 0)) []),
 aI 10 (.alloc (zr 64 (.int .u8 0))),
 iS 64 10 16]
abbrev yktQ:=[
 aI 11 (.mv true (.c (.bool false)))]
abbrev ykuQ:=[
 iI 12 .i64 0]
abbrev ykvQ:=[
 aM 17 12,
 iK 18 .lss 17 .i64 2]
abbrev ykwQ:=[
 iD 21 0 4,
 iP 22 1 21 4,
 iQ 23 9 4 4,
 iD 24 3 4,
 iP 25 1 24 4,
 aM 28 1,
 aI 29 (.bin .mul (.c (.int .i64 2)) (.t 28)),
 aM 31 12,
 aI 13 (.alloc (zr 64 (.int .u8 0)++[(.int .i64 0)])),
 iV 26 f_zz23 23 25 2,
 iK 27 .add 26 .i64 2,
 iB 30 .add 27 29,
 iB 32 .add 30 31,
 iV 33 f_zz27 22 32 2,
 aS (.store 65 (.t 13) (.t 33) (.site 13))]
abbrev ykxQ:=[
 iD 34 64 13,
 iL 35 1 34,
 iK 36 .eql 35 .i64 0]
abbrev ykyQ:=[
 iD 37 0 13,
 iM 38 64 37,
 iD 39 3 4,
 iL 40 1 39,
 aM 41 1,
 iW 42 f_zz22 38 40 41 0,
 aN 14 42]
abbrev ykzQ:=[
 iD 43 0 13,
 iEq 44 64 1 43 24,
 iL 45 1 44,
 iK 46 .eql 45 .u8 1,
 aM 47 46,
 aF 48 47 (.faddr 0 (.t 13)),
 aF 49 47 (.iaddrA 64 1 (.t 48) (.c (.int .i64 24))),
 aF 50 47 (.load false 1 (.t 49) .any),
 aF 51 47 (.bin .eql (.t 50) (.c (.int .u8 3))),
 iO 52 47 51,
 aN 15 52]
abbrev ykAQ:=[
 aM 53 14,
 aM 54 53,
 aT 55 54 (.faddr 0 (.t 13)),
 aT 56 54 (.load true 64 (.t 55) (.site 13)),
 aT 59 54 (.faddr 4 (.t 4)),
 aT 60 54 (.load false 1 (.t 59) (.site 4)),
 aT 57 54 (.call (.c (.fn f_zz71)) [(.t 56),(.c (.int .i64 0)),(.c (.int .i64 4))] 2),
 aT 58 54 (.call (.c (.fn f_zz50)) [(.t 57)] 2),
 aT 61 54 (.bin .eql (.t 58) (.t 60)),
 iY 62 54 61,
 aM 63 62,
 aT 64 63 (.faddr 0 (.t 13)),
 aT 65 63 (.load true 64 (.t 64) (.site 13)),
 aT 67 63 (.mv false (.t 2)),
 aT 68 63 (.slS (.t 67) none (some (.c (.int .i64 8)))),
 aT 66 63 (.call (.c (.fn f_zz71)) [(.t 65),(.c (.int .i64 8)),(.c (.int .i64 16))] 2),
 aT 69 63 (.bin .eql (.t 66) (.t 68)),
 iY 70 63 69,
 aM 71 70,
 aT 72 71 (.faddr 0 (.t 13)),
 aT 73 71 (.iaddrA 64 1 (.t 72) (.c (.int .i64 25))),
 aT 74 71 (.load false 1 (.t 73) (.site 13)),
 aT 75 71 (.bin .leq (.t 74) (.c (.int .u8 30))),
 iY 76 71 75,
 aM 77 76,
 aT 78 77 (.mv false (.t 15)),
 aT 79 77 (.mv false (.t 3)),
 aT 80 77 (.eqb false (.t 78) (.t 79)),
 iY 81 77 80]
abbrev yhbQ:=[
 aM 82 11,
 iT 83 82,
 aM 84 83,
 aF 85 84 (.faddr 0 (.t 13)),
 aF 86 84 (.load true 64 (.t 85) (.site 13)),
 aF 89 84 (.load true 64 (.t 10) (.site 10)),
 aF 87 84 (.call (.c (.fn f_zz71)) [(.t 86),(.c (.int .i64 4)),(.c (.int .i64 8))] 2),
 aF 88 84 (.call (.c (.fn f_zz50)) [(.t 87)] 2),
 aF 90 84 (.call (.c (.fn f_zz71)) [(.t 89),(.c (.int .i64 4)),(.c (.int .i64 8))] 2),
 aF 91 84 (.call (.c (.fn f_zz50)) [(.t 90)] 2),
 aF 92 84 (.bin .gtr (.t 88) (.t 91)),
 iO 93 84 92]
abbrev yhcQ:=[
 iD 94 0 13,
 iM 95 64 94,
 iS 64 10 95]
abbrev yhdQ:=[
 aI 11 (.mv true (.c (.bool true)))]
abbrev ykBQ:ACode:=.seq (.seq (.reg true yhbQ) (.cond (.t 93) (.reg false yhcQ) (.skip))) (.reg false yhdQ)
abbrev ykCQ:ACode:=iJq ykyQ (iJq ykzQ (.seq (.reg true ykAQ) (.cond (.t 81) (ykBQ) (.skip))))
abbrev yheQ:=[
 aM 19 12,
 iK 20 .add 19 .i64 1,
 aN 12 20]
abbrev ykDQ:ACode:=.seq (iJq ykvQ (.cond (.t 18) (.skip) (.exit 0))) (.seq (.block 1 (.seq (.reg true ykwQ) (iJq ykxQ (.cond (.t 36) (ykCQ) (.skip))))) (.reg false yheQ))
abbrev yhfQ:=[
 iM 96 64 10,
 aM 97 11,
 iS 64 8 96,
 aN 9 97]
abbrev ykZQ:ACode:=iJq ykrQ (iJq yksQ (iJq yktQ (.seq (iJq ykuQ (.block 0 (.loop ykDQ))) (iJq yhfQ (.ret)))))
def zz4_F:AFunc:=⟨98,[.cell 8 true 64,.tmp 9],ykZQ⟩
theorem zz4_cp:zb Tryz.prog [] f_zz4=some zz4_F:=by kernel_rfl
abbrev yhgQ:=[
 aI 2 (.mv true (.c .nilS))]
abbrev yhhQ:=[
 aM 3 0,
 iK 4 .quo 3 .i64 16777216,
 aI 5 (.conv .u8 (.t 4)),
 aM 6 0,
 iK 7 .quo 6 .i64 65536,
 aI 8 (.conv .u8 (.t 7)),
 aM 9 0,
 iK 10 .quo 9 .i64 256,
 aI 11 (.conv .u8 (.t 10)),
 aM 12 0,
 aI 13 (.conv .u8 (.t 12)),
 aI 14 (.mkslice 1 4 (.int .u8 0) [(0,(.t 5)),(1,(.t 8)),(2,(.t 11)),(3,(.t 13))]),
 aN 2 14]
abbrev ykEQ:ACode:=iJq yhgQ (iJq yhhQ (.ret))
def zz69_F:AFunc:=⟨15,[.tmp 2],ykEQ⟩
theorem zz69_cp:zb Tryz.prog [] f_zz69=some zz69_F:=by kernel_rfl
-- loop 0: [0, 3, 4, 5, 6]
-- loop 1: [3, 4, 5, 7]
abbrev yhiQ:=[
 aI 3 (.box 16 (.t 1)),
 aI 4 (.alloc (zr 64 (.int .u8 0)))]
abbrev yhjQ:=[
 aI 8 (.build (zr 64 (.int .u8 0)) []),
 aI 5 (.alloc (zr 64 (.int .u8 0))),
 iS 64 5 8]
abbrev yhkQ:=[
 iI 6 .i64 0]
abbrev yhlQ:=[
 aM 9 6,
 iK 10 .lss 9 .i64 48]
abbrev yhmQ:=[
 aM 13 6,
 aM 14 0,
 aM 15 6,
 iR 16 1 14 15,
 iL 17 1 16,
 iA 18 64 1 5 13,
 iS 1 18 17]
abbrev yhnQ:=[
 aM 11 6,
 iK 12 .add 11 .i64 1,
 aN 6 12]
abbrev yhoQ:ACode:=.seq (iJq yhlQ (.cond (.t 10) (.skip) (.exit 0))) (.seq (.block 1 (.reg false yhmQ)) (.reg false yhnQ))
abbrev yhpQ:=[
 iI 7 .i64 0]
abbrev yhqQ:=[
 aM 19 7,
 iK 20 .lss 19 .i64 16]
abbrev yhrQ:=[
 aM 23 7,
 aI 24 (.bin .add (.c (.int .i64 48)) (.t 23)),
 aM 25 7,
 iA 26 16 1 3 25,
 iL 27 1 26,
 iA 28 64 1 5 24,
 iS 1 28 27]
abbrev yhsQ:=[
 aM 21 7,
 iK 22 .add 21 .i64 1,
 aN 7 22]
abbrev yhtQ:ACode:=.seq (iJq yhqQ (.cond (.t 20) (.skip) (.exit 2))) (.seq (.block 3 (.reg false yhrQ)) (.reg false yhsQ))
abbrev vBQ:=[
 iM 29 64 5,
 iS 64 4 29]
abbrev ykFQ:ACode:=iJq yhiQ (iJq yhjQ (.seq (iJq yhkQ (.block 0 (.loop yhoQ))) (.seq (iJq yhpQ (.block 2 (.loop yhtQ))) (iJq vBQ (.ret)))))
def zz51_F:AFunc:=⟨30,[.cell 4 true 64],ykFQ⟩
theorem zz51_cp:zb Tryz.prog [] f_zz51=some zz51_F:=by kernel_rfl
abbrev yhuQ:=[
 aI 5 (.box 2 (.t 0)),
 aI 6 (.box 8 (.t 1)),
 aI 10 (.alloc ([(.int .i64 0),(.int .i64 0)]++zr 40 (.int .u8 0)))]
abbrev yhvQ:=[
 iD 12 0 5,
 iL 13 1 12,
 iD 14 1 5,
 iL 15 1 14,
 iM 16 8 6,
 aM 17 2,
 aI 18 (.len true (.t 17)),
 aI 19 (.conv .u8 (.t 18)),
 aI 20 (.build ([(.int .i64 0),(.int .i64 0)]++zr 40 (.int .u8 0)) [(0,1,(.t 13)),(1,1,(.t 15)),(2,8,(.t 16)),(11,1,(.t 19))]),
 aI 11 (.gn (.alloc ([(.int .i64 0),(.int .i64 0)]++zr 40 (.int .u8 0))) []),
 iS 42 11 20]
abbrev yhwQ:=[
 iD 21 12 11,
 aI 22 (.gd (.arrS 1 30 false false false) [(.t 21)]),
 aM 23 2,
 aI 24 (.gd .copyS [(.t 22),(.t 23)])]
abbrev yhxQ:=[
 aM 25 3]
abbrev yhyQ:=[
 iD 26 10 11,
 iL 27 1 26,
 iK 28 .add 27 .u8 1,
 iD 29 10 11,
 iS 1 29 28]
abbrev yhzQ:=[
 aM 30 4]
abbrev yhAQ:=[
 iD 31 10 11,
 iL 32 1 31,
 iK 33 .add 32 .u8 2,
 iD 34 10 11,
 iS 1 34 33]
abbrev yhBQ:=[
 iM 35 42 11,
 iS 42 10 35]
abbrev ykGQ:ACode:=iJq yhuQ (iJq yhvQ (iJq yhwQ (.seq (iJq yhxQ (.cond (.t 25) (.reg false yhyQ) (.skip))) (.seq (iJq yhzQ (.cond (.t 30) (.reg false yhAQ) (.skip))) (iJq yhBQ (.ret))))))
def zz43_F:AFunc:=⟨36,[.cell 10 true 42],ykGQ⟩
theorem zz43_cp:zb Tryz.prog [11] f_zz43=some zz43_F:=by kernel_rfl
abbrev yhCQ:=[
 aI 3 (.gn (.box 42) [(.t 0)]),
 aI 6 (.alloc (zr 64 (.int .u8 0)))]
abbrev yhDQ:=[
 aI 7 (.gn (.alloc (zr 64 (.int .u8 0))) [])]
abbrev yhEQ:=[
 aI 9 (.gd (.arrS 1 64 true false false) [(.t 7),(.c (.int .i64 0))]),
 iD 10 0 3,
 iG 11 1 10,
 iV 12 f_zz103 9 11 2]
abbrev yhFQ:=[
 aI 13 (.gd (.arrS 1 64 true false false) [(.t 7),(.c (.int .i64 4))]),
 iD 14 1 3,
 iG 15 1 14,
 iV 16 f_zz103 13 15 2]
abbrev yhGQ:=[
 aI 17 (.gd (.arrS 1 64 true false false) [(.t 7),(.c (.int .i64 8))]),
 iD 18 2 3,
 aI 19 (.gd (.arrS 1 8 false false false) [(.t 18)]),
 aI 20 (.copy 1 (.t 17) (.t 19))]
abbrev yhHQ:=[
 iD 21 10 3,
 iL 22 1 21,
 iD 23 11 3,
 iL 24 1 23,
 iEq 25 64 1 7 24,
 iS 1 25 22,
 iEq 26 64 1 7 25,
 iS 1 26 24]
abbrev yhIQ:=[
 aI 27 (.gd (.arrS 1 64 true false false) [(.t 7),(.c (.int .i64 26))]),
 iD 28 12 3,
 aI 29 (.gd (.arrS 1 30 false false false) [(.t 28)]),
 aI 30 (.copy 1 (.t 27) (.t 29))]
abbrev yhJQ:=[
 iM 31 64 7,
 aM 32 1,
 aM 33 2,
 iW 34 f_zz106 31 32 33 0,
 aI 8 (.gn (.alloc (zr 16 (.int .u8 0))) []),
 iS 16 8 34]
abbrev yhKQ:=[
 aI 35 (.gd (.arrS 1 64 true false false) [(.t 7),(.c (.int .i64 16))]),
 aI 36 (.gd (.arrS 1 16 false true false) [(.t 8),(.c (.int .i64 8))]),
 aI 37 (.copy 1 (.t 35) (.t 36))]
abbrev yhLQ:=[
 aI 38 (.gd (.arrS 1 64 true false false) [(.t 7),(.c (.int .i64 56))]),
 aI 39 (.gd (.arrS 1 16 true false false) [(.t 8),(.c (.int .i64 8))]),
 aI 40 (.copy 1 (.t 38) (.t 39))]
abbrev vCQ:=[
 iM 41 64 7,
 iS 64 6 41]
abbrev ykHQ:ACode:=iJq yhCQ (iJq yhDQ (.seq (.reg true yhEQ) (.seq (.reg true yhFQ) (.seq (.reg true yhGQ) (iJq yhHQ (.seq (.reg true yhIQ) (iJq yhJQ (.seq (.reg true yhKQ) (.seq (.reg true yhLQ) (iJq vCQ (.ret)))))))))))
def zz17_F:AFunc:=⟨42,[.cell 6 true 64],ykHQ⟩
theorem zz17_cp:zb Tryz.prog [3,7,8,12,16] f_zz17=some zz17_F:=by kernel_rfl
abbrev yhMQ:=[
 aI 1 (.gn (.box 64) [(.t 0)]),
 aI 2 (.alloc (zr 8 (.int .u8 0)))]
abbrev yhNQ:=[
 aI 3 (.gd (.arrS 1 64 true true false) [(.t 1),(.c (.int .i64 16)),(.c (.int .i64 24))]),
 aI 4 (.gd (.s2a 8) [(.t 3)]),
 iM 5 8 4,
 iS 8 2 5]
abbrev ykIQ:ACode:=iJq yhMQ (iJq yhNQ (.ret))
def zz99_F:AFunc:=⟨6,[.cell 2 true 8],ykIQ⟩
theorem zz99_cp:zb Tryz.prog [1] f_zz99=some zz99_F:=by kernel_rfl
abbrev yhOQ:=[
 aI 2 (.mv true (.c (.str [])))]
abbrev yhPQ:=[
 aM 3 0,
 iU 4 f_zz74 3 0,
 aI 5 (.b2s (.t 4)),
 aN 2 5]
abbrev ykJQ:ACode:=iJq yhOQ (iJq yhPQ (.ret))
def zz40_F:AFunc:=⟨6,[.tmp 2],ykJQ⟩
theorem zz40_cp:zb Tryz.prog [] f_zz40=some zz40_F:=by kernel_rfl
-- loop 0: [0, 1, 2, 3, 8]
abbrev yhQQ:=[
 aI 8 (.mv false (.c (.int .i64 0)))]
abbrev yhRQ:=[
 iK 9 .lss 8 .i64 2]
abbrev yhSQ:=[
 aM 10 8,
 aN 5 10]
abbrev yhTQ:=[
 iD 12 0 1,
 iL 13 1 12,
 iL 14 1 2,
 aM 15 5,
 iB 16 .add 14 15,
 iV 17 f_zz86 13 16 0,
 aM 11 17,
 iX 18 11 0,
 iX 19 11 1,
 aI 6 (.alloc (zr 64 (.int .u8 0))),
 iS 64 6 18,
 aN 7 19]
abbrev yhUQ:=[
 aM 20 7,
 iK 21 .eql 20 .i64 0,
 aM 22 21,
 aT 23 22 (.load false 1 (.t 3) .any),
 aT 24 22 (.load true 64 (.t 6) .any),
 aT 25 22 (.call (.t 23) [(.t 24)] 0),
 iY 26 22 25,
 aM 27 26,
 aT 28 27 (.mv false (.t 0)),
 aT 29 27 (.load true 64 (.t 6) .any),
 aT 30 27 (.call (.t 28) [(.t 29)] 0),
 aT 31 27 (.not (.t 30)),
 iY 32 27 31]
abbrev yhVQ:=[
 iK 33 .add 8 .i64 1,
 aM 8 33]
abbrev yhWQ:ACode:=iJq yhRQ (.seq (.cond (.t 9) (.skip) (.exit 0)) (.seq (.block 1 (iJq yhSQ (iJq yhTQ (iJq yhUQ (.cond (.t 32) (.ret) (.skip)))))) (.reg false yhVQ)))
abbrev ykKQ:ACode:=iJq yhQQ (.block 0 (.loop yhWQ))
def zz32_F:AFunc:=⟨34,[],ykKQ⟩
theorem zz32_cp:zb Tryz.prog [] f_zz32=some zz32_F:=by kernel_rfl
abbrev yhXQ:=[
 aI 3 (.gn (.box 64) [(.t 0)]),
 aI 6 (.mv true (.c (.bool false)))]
abbrev yhYQ:=[
 iH 7 64 3,
 aM 8 1,
 aM 9 2,
 aI 11 (.gd (.arrS 1 64 true false false) [(.t 3),(.c (.int .i64 48))]),
 aI 12 (.gd (.s2a 16) [(.t 11)]),
 iH 13 16 12,
 iW 10 f_zz91 7 8 9 1,
 aI 14 (.eqs false (kr 16 .i) (.t 10) (.t 13)),
 aN 6 14]
abbrev ykLQ:ACode:=iJq yhXQ (.seq (.reg true yhYQ) (.ret))
def zz72_F:AFunc:=⟨15,[.tmp 6],ykLQ⟩
theorem zz72_cp:zb Tryz.prog [3] f_zz72=some zz72_F:=by kernel_rfl
-- loop 0: [3, 7, 8, 9]
abbrev vDQ:=[
 iI 2 .i64 0]
abbrev vEQ:=[
 iI 3 .i64 0]
abbrev vFQ:=[
 aM 6 0,
 aI 7 (.sl 1 (.t 6) none (some (.c (.int .i64 4)))),
 iZ 8 7,
 aI 9 (.mv false (.c (.int .i64 0)))]
abbrev vGQ:=[
 iB 10 .lss 9 8]
abbrev vHQ:=[
 iR 11 1 7 9,
 iL 12 1 11,
 aN 5 12]
abbrev vIQ:=[
 aM 13 3,
 iK 14 .shl 13 .u64 8,
 aM 15 5,
 aI 16 (.conv .i64 (.t 15)),
 iB 17 .or 14 16,
 aN 3 17]
abbrev vJQ:=[
 iK 18 .add 9 .i64 1,
 aM 9 18]
abbrev vKQ:ACode:=iJq vGQ (.seq (.cond (.t 10) (.skip) (.exit 0)) (.seq (.block 1 (iJq vHQ (.reg false vIQ))) (.reg false vJQ)))
abbrev vLQ:=[
 aM 19 3,
 aN 2 19]
abbrev yhZQ:ACode:=iJq vDQ (iJq vEQ (.seq (iJq vFQ (.block 0 (.loop vKQ))) (iJq vLQ (.ret))))
def zz102_F:AFunc:=⟨20,[.tmp 2],yhZQ⟩
theorem zz102_cp:zb Tryz.prog [] f_zz102=some zz102_F:=by kernel_rfl
abbrev vMQ:=[
 aI 3 (.gn (.box 64) [(.t 0)]),
 aI 6 (.alloc (zr 16 (.int .u8 0)))]
abbrev vNQ:=[
 aI 7 (.gd (.arrS 1 64 false true false) [(.t 3),(.c (.int .i64 16))]),
 aI 8 (.gd .b2s [(.t 7)]),
 aI 9 (.gd (.arrS 1 64 true true false) [(.t 3),(.c (.int .i64 24)),(.c (.int .i64 56))]),
 aI 10 (.gd .b2s [(.t 9)]),
 iB 11 .add 8 10,
 aM 12 1,
 aM 15 2,
 iU 13 f_zz113 12 1,
 aI 14 (.b2s (.t 13)),
 iU 16 f_zz113 15 1,
 aI 17 (.b2s (.t 16)),
 aI 18 (.mkslice 1 3 (.str []) [(0,(.t 11)),(1,(.t 14)),(2,(.t 17))]),
 iC 19 f_zz114 [(.c (.int .i64 130)),(.t 18)] 1,
 aS (.store 16 (.t 6) (.t 19) (.site 6))]
abbrev yh0Q:ACode:=iJq vMQ (.seq (.reg true vNQ) (.ret))
def zz106_F:AFunc:=⟨20,[.cell 6 true 16],yh0Q⟩
theorem zz106_cp:zb Tryz.prog [3,8,10] f_zz106=some zz106_F:=by kernel_rfl
-- loop 0: [1, 6, 7, 13, 14, 15]
abbrev yh1Q:=[
 aI 3 (.gn (.box 64) [(.t 0)]),
 aI 6 (.alloc (zr 16 (.int .u8 0)))]
abbrev yh2Q:=[
 aI 10 (.gd (.arrS 1 64 false true false) [(.t 3),(.c (.int .i64 48))]),
 aI 11 (.gd .b2s [(.t 10)]),
 aI 12 (.mkslice 1 1 (.str []) [(0,(.t 11))]),
 aN 7 12]
abbrev yh3Q:=[
 aM 13 2,
 iZ 14 13,
 aI 15 (.mv false (.c (.int .i64 0)))]
abbrev yh4Q:=[
 iB 16 .lss 15 14]
abbrev yh5Q:=[
 iR 17 1 13 15,
 iL 18 1 17,
 aN 9 18]
abbrev yh6Q:=[
 aN 19 7,
 aM 20 9,
 iU 21 f_zz113 20 0,
 aI 22 (.b2s (.t 21)),
 aI 23 (.mkslice 1 1 (.str []) [(0,(.t 22))]),
 aI 24 (.append 1 16 (.t 19) (.t 23)),
 aN 7 24]
abbrev yh7Q:=[
 iK 25 .add 15 .i64 1,
 aM 15 25]
abbrev yh8Q:ACode:=iJq yh4Q (.seq (.cond (.t 16) (.skip) (.exit 0)) (.seq (.block 1 (iJq yh5Q (.reg false yh6Q))) (.reg false yh7Q)))
abbrev yh9Q:=[
 aM 26 1,
 aM 27 7,
 iV 28 f_zz114 26 27 0,
 iS 16 6 28]
abbrev ykMQ:ACode:=iJq yh1Q (iJq yh2Q (.seq (iJq yh3Q (.block 0 (.loop yh8Q))) (iJq yh9Q (.ret))))
def zz91_F:AFunc:=⟨29,[.cell 6 true 16],ykMQ⟩
theorem zz91_cp:zb Tryz.prog [3,11] f_zz91=some zz91_F:=by kernel_rfl
-- loop 0: [7, 8, 9, 42]
-- loop 1: [0, 1, 3, 4, 21, 22]
abbrev yiaQ:=[
 iL 13 1 1,
 iN 14 13,
 iD 15 7 14,
 iM 16 8 15,
 aI 3 (.gn (.alloc (zr 8 (.int .u8 0))) []),
 aI 4 (.gn (.alloc [(.bool false)]) []),
 iS 8 3 16,
 aS (.store 1 (.t 4) (.c (.bool true)) .any)]
abbrev yibQ:=[
 iL 17 1 1,
 iN 18 17,
 iD 19 0 18,
 iM 20 3 19,
 iU 21 f_zz54 20 0,
 aI 22 (.mv false (.c (.int .i64 0)))]
abbrev yicQ:=[
 iB 23 .lss 22 21]
abbrev yidQ:=[
 aM 24 22,
 aI 5 (.gn (.alloc [(.int .i64 0)]) []),
 iS 1 5 24]
abbrev yieQ:=[
 aI 25 (.gd (.clo f_zz9) [(.t 1),(.t 5),(.t 3),(.t 4)]),
 aN 6 25]
abbrev yifQ:=[
 aI 7 (.gn (.alloc (zr 64 (.int .u8 0))) [])]
abbrev yigQ:=[
 aI 8 (.gn (.alloc [(.bool false)]) []),
 aI 9 (.gn (.alloc [(.int .i64 0)]) []),
 aS (.store 1 (.t 8) (.c (.bool false)) .any),
 aS (.store 1 (.t 9) (.c (.int .i64 0)) .any)]
abbrev yihQ:=[
 iG 26 1 1,
 iN 27 26,
 iD 28 0 27,
 iH 29 3 28,
 iG 30 1 1,
 iN 31 30,
 iD 32 0 31,
 iH 33 3 32,
 iG 34 1 1,
 iN 35 34,
 iD 36 5 35,
 iG 37 1 36,
 iG 38 1 5,
 aM 40 6,
 iW 39 f_zz63 33 37 38 1,
 iW 41 f_zz44 29 39 40 3]
abbrev yiiQ:=[
 aI 10 (.alloc (zr 64 (.int .u8 0))),
 iS 64 10 42]
abbrev yijQ:=[
 iM 43 64 10,
 iU 44 f_zz39 43 0,
 aI 45 (.field false 1 1 (.t 44)),
 aN 11 45]
abbrev vOQ:=[
 iL 46 1 8,
 iT 47 46,
 aM 48 47,
 aF 49 48 (.mv false (.t 11)),
 aF 50 48 (.load false 1 (.t 9) .any),
 aF 51 48 (.bin .gtr (.t 49) (.t 50)),
 iO 52 48 51]
abbrev vPQ:=[
 iQ 53 64 10 10,
 aM 54 11,
 aS (.store 1 (.t 8) (.c (.bool true)) .gp),
 aS (.store 64 (.t 7) (.t 53) .gp),
 aS (.store 1 (.t 9) (.t 54) .gp)]
abbrev zao:ACode:=.reg false yiiQ
abbrev journal_Journal_chain_1_y0b:ACode:=.block 3 (iJq yijQ (iJq vOQ (.cond (.t 52) (.reg true vPQ) (.skip))))
abbrev vQQ:=[
 iL 55 1 8,
 iT 56 55]
abbrev vRQ:=[
 iM 57 64 7,
 iU 58 f_zz39 57 0,
 aI 12 (.alloc ([(.int .i64 0),(.int .i64 0)]++zr 40 (.int .u8 0))),
 iS 42 12 58]
abbrev vSQ:=[
 iH 59 64 7,
 iQ 61 42 12 12,
 iU 60 f_zz99 59 1,
 iU 62 f_zz31 61 1,
 aS (.store 8 (.t 3) (.t 60) .gp),
 aS (.store 1 (.t 4) (.t 62) .gp)]
abbrev vTQ:=[
 aM 63 0,
 iM 64 42 12,
 iM 65 8 3,
 aI 66 (.call (.t 63) [(.t 64),(.t 65)] 0),
 iT 67 66]
abbrev vUQ:=[
 iK 68 .add 22 .i64 1,
 aM 22 68]
abbrev yikQ:ACode:=iJq yicQ (.seq (.cond (.t 23) (.skip) (.exit 0)) (.seq (.block 1 (iJq yidQ (iJq yieQ (iJq yifQ (iJq yigQ (.seq (.seq (.reg true yihQ) (.block 2 (.rangeF (.t 41) [42] zao journal_Journal_chain_1_y0b))) (.seq (iJq vQQ (.cond (.t 56) (.ret) (.skip))) (iJq vRQ (.seq (.reg true vSQ) (iJq vTQ (.cond (.t 67) (.ret) (.skip)))))))))))) (.reg false vUQ)))
abbrev ykNQ:ACode:=iJq yiaQ (iJq yibQ (.block 0 (.loop yikQ)))
def zz15_F:AFunc:=⟨69,[],ykNQ⟩
theorem zz15_cp:zb Tryz.prog [3,4,5,7,8,9,25] f_zz15=some zz15_F:=by kernel_rfl
abbrev ykOQ:=[
 aI 5 (.box 64 (.t 0)),
 aI 6 (.mv true (.c (.bool false)))]
abbrev ykPQ:=[
 iM 8 64 5,
 iU 9 f_zz39 8 0,
 aI 7 (.alloc ([(.int .i64 0),(.int .i64 0)]++zr 40 (.int .u8 0))),
 iS 42 7 9]
abbrev ykQQ:=[
 iQ 10 64 5 5,
 iG 11 1 1,
 iN 12 11,
 iD 13 5 12,
 iG 14 1 13,
 iG 15 1 2,
 iW 16 f_zz53 10 14 15 1,
 aM 17 16,
 aT 18 17 (.faddr 0 (.t 7)),
 aT 19 17 (.load false 1 (.t 18) (.site 7)),
 aT 20 17 (.load false 1 (.t 1) .foreign),
 aT 21 17 (.nilck (.t 20)),
 aT 22 17 (.faddr 3 (.t 21)),
 aT 23 17 (.faddr 0 (.t 22)),
 aT 24 17 (.load false 1 (.t 23) .foreign),
 aT 25 17 (.bin .eql (.t 19) (.t 24)),
 iY 26 17 25,
 aM 27 26,
 aT 28 27 (.faddr 2 (.t 7)),
 aT 29 27 (.load true 8 (.t 28) (.site 7)),
 aT 30 27 (.load true 8 (.t 3) .foreign),
 aT 31 27 (.eqs false (kr 8 .i) (.t 29) (.t 30)),
 iY 32 27 31,
 aM 33 32,
 aT 34 33 (.faddr 11 (.t 7)),
 aT 35 33 (.load false 1 (.t 34) (.site 7)),
 aT 36 33 (.bin .leq (.t 35) (.c (.int .u8 30))),
 iY 37 33 36,
 aM 38 37,
 aT 39 38 (.load true 42 (.t 7) (.site 7)),
 aT 41 38 (.load false 1 (.t 4) .foreign),
 aT 40 38 (.call (.c (.fn f_zz16)) [(.t 39)] 1),
 aT 42 38 (.eqb false (.t 40) (.t 41)),
 iY 43 38 42,
 aN 6 43]
abbrev yk0Q:ACode:=iJq ykOQ (iJq ykPQ (.seq (.reg true ykQQ) (.ret)))
def zz9_F:AFunc:=⟨44,[.tmp 6],yk0Q⟩
theorem zz9_cp:zb Tryz.prog [] f_zz9=some zz9_F:=by kernel_rfl
