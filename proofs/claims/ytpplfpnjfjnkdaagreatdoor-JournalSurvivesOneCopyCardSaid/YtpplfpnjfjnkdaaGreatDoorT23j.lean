/-
 The functions' code in the evaluator's form (second part),printed by a program of ours from the loaded program,and checked against it.
 Conditions: none.
-/
import Derived.Test.YtpplfpnjfjnkdaaGreatDoorT23
namespace Go.Proofs.YtpplfpnjfjnkdaaGreatDoor
open Go Go.E2
noncomputable section
-- loop 0: [2, 4, 7, 8, 9, 65, 66, 67]
-- loop 1: [7, 8, 13, 88, 89, 90]
abbrev zz0_r0:List AI:=[
 aI 4 (.box 2 (.t 1)),
 aI 6 (.mv true (.c (.bool false)))]
abbrev zz0_r1:List AI:=[
 aI 23 (.iaddrA 2 1 (.t 4) (.c (.int .i64 0))),
 aI 24 (.load false 1 (.t 23) .any),
 aI 25 (.build [(.int .u8 0),(.str []),.nilS,(.int .i64 0),(.int .i64 0),.nilS] [(2,1,(.t 24))]),
 aI 26 (.iaddrA 2 1 (.t 4) (.c (.int .i64 1))),
 aI 27 (.load false 1 (.t 26) .any),
 aI 28 (.build [(.int .u8 0),(.str []),.nilS,(.int .i64 0),(.int .i64 0),.nilS] [(2,1,(.t 27))]),
 aI 29 (.mkslice 6 2 (.agg [(.int .u8 0),(.str []),.nilS,(.int .i64 0),(.int .i64 0),.nilS]) [(0,(.t 25)),(1,(.t 28))]),
 aI 30 (.call (.c (.fn f_zz53)) [(.t 29),(.c (.int .i64 2))] 0),
 aI 31 (.not (.t 30)),
 aM 32 31,
 aF 33 32 (.mv false (.t 2)),
 aF 34 32 (.len false (.t 33)),
 aF 35 32 (.bin .gtr (.t 34) (.c (.int .i64 40))),
 aI 36 (.pick (.t 32) (.c (.bool true)) (.t 35))]
abbrev zz0_r2:List AI:=[
 aI 37 (.call (.c (.fn f_zz33)) [] 0),
 aN 6 37]
abbrev zz0_r3:List AI:=[
 aM 38 0,
 aI 39 (.conv .i64 (.t 38)),
 aI 40 (.bin .rem (.t 39) (.c (.int .i64 32))),
 aI 41 (.bin .add (.c (.int .i64 8)) (.t 40)),
 aN 7 41]
abbrev zz0_r4:List AI:=[
 aM 42 7,
 aI 43 (.call (.c (.fn f_zz90)) [(.t 42)] 0),
 aN 8 43]
abbrev zz0_r5:List AI:=[
 aM 44 8,
 aI 45 (.gd (.pnil 0 false) [(.t 44)]),
 aM 46 45,
 aF 47 46 (.mv false (.t 8)),
 aF 48 46 (.mv false (.t 7)),
 aF 49 46 (.call (.c (.fn f_zz70)) [(.t 47),(.c (.int .i64 0)),(.t 48)] 0),
 aF 50 46 (.bin .neq (.t 49) (.c (.int .i64 0))),
 aI 51 (.pick (.t 46) (.c (.bool true)) (.t 50))]
abbrev zz0_r6:List AI:=[
 aI 6 (.mv true (.c (.bool false)))]
abbrev zz0_r7:List AI:=[
 aM 53 8,
 aM 54 7,
 aI 55 (.call (.c (.fn f_zz79)) [(.t 53),(.c (.int .i64 0)),(.t 54)] 0),
 aM 52 55,
 aI 56 (.ext (.t 52) 0),
 aI 57 (.ext (.t 52) 1),
 aN 9 56,
 aN 10 57]
abbrev zz0_r8:List AI:=[
 aM 58 10,
 aI 59 (.bin .neq (.t 58) (.c (.int .i64 0))),
 aM 60 59,
 aF 61 60 (.mv false (.t 9)),
 aF 62 60 (.gd (.pnil 0 false) [(.t 61)]),
 aI 63 (.pick (.t 60) (.c (.bool true)) (.t 62))]
abbrev zz0_r9:List AI:=[
 aI 6 (.mv true (.c (.bool false)))]
abbrev zz0_r10:List AI:=[
 aI 64 (.iaddrA 2 1 (.t 4) (.c (.int .i64 0))),
 aI 65 (.load false 1 (.t 64) .any),
 aI 66 (.len false (.t 65)),
 aI 67 (.mv false (.c (.int .i64 0)))]
abbrev zz0_r11:List AI:=[
 aI 68 (.bin .lss (.t 67) (.t 66))]
abbrev zz0_r12:List AI:=[
 aI 69 (.iaddr 1 (.t 65) (.t 67)),
 aI 70 (.load false 1 (.t 69) .any),
 aN 12 70]
abbrev zz0_r13:List AI:=[
 aM 71 9,
 aM 72 12,
 aI 73 (.call (.c (.fn f_zz15)) [(.t 71),(.t 72)] 0)]
abbrev zz0_r14:List AI:=[
 aI 74 (.bin .add (.t 67) (.c (.int .i64 1))),
 aM 67 74]
abbrev zz0_l0:ACode:=.seq (.reg false zz0_r11) (.seq (.cond (.t 68) (.skip) (.exit 0)) (.seq (.block 1 (.seq (.reg false zz0_r12) (.reg false zz0_r13))) (.reg false zz0_r14)))
abbrev zz0_r15:List AI:=[
 aM 75 9,
 aI 76 (.call (.c (.fn f_zz16)) [(.t 75)] 0),
 aI 77 (.bin .neq (.t 76) (.c (.int .i64 0)))]
abbrev zz0_r16:List AI:=[
 aI 6 (.mv true (.c (.bool false)))]
abbrev zz0_r17:List AI:=[
 aI 78 (.iaddrA 2 1 (.t 4) (.c (.int .i64 1))),
 aI 79 (.load false 1 (.t 78) .any),
 aI 80 (.len false (.t 79)),
 aI 81 (.bin .gtr (.t 80) (.c (.int .i64 0)))]
abbrev zz0_r18:List AI:=[
 aM 82 9,
 aI 83 (.iaddrA 2 1 (.t 4) (.c (.int .i64 1))),
 aI 84 (.load false 1 (.t 83) .any),
 aI 85 (.call (.c (.fn f_zz8)) [(.t 82),(.t 84)] 0)]
abbrev zz0_r19:List AI:=[
 aM 86 9,
 aI 87 (.call (.c (.fn f_zz7)) [(.t 86)] 0),
 aN 13 87]
abbrev zz0_r20:List AI:=[
 aM 88 2,
 aI 89 (.len false (.t 88)),
 aI 90 (.mv false (.c (.int .i64 0)))]
abbrev zz0_r21:List AI:=[
 aI 91 (.bin .lss (.t 90) (.t 89))]
abbrev zz0_r22:List AI:=[
 aM 92 90,
 aI 93 (.iaddr 1 (.t 88) (.t 90)),
 aI 94 (.load false 1 (.t 93) .any),
 aN 14 92,
 aN 15 94]
abbrev zz0_r23:List AI:=[
 aM 95 14,
 aI 96 (.bin .rem (.t 95) (.c (.int .i64 2))),
 aM 97 14,
 aI 98 (.bin .quo (.t 97) (.c (.int .i64 2))),
 aN 16 96,
 aN 17 98]
abbrev zz0_r24:List AI:=[
 aM 99 17,
 aI 100 (.bin .mul (.c (.int .i64 2)) (.t 99)),
 aI 101 (.bin .add (.t 100) (.c (.int .i64 1))),
 aM 102 7,
 aI 103 (.bin .quo (.t 102) (.c (.int .i64 2))),
 aI 104 (.bin .geq (.t 101) (.t 103))]
abbrev zz0_r25:List AI:=[
 aM 105 16,
 aM 106 7,
 aI 107 (.bin .quo (.t 106) (.c (.int .i64 2))),
 aI 108 (.bin .mul (.t 105) (.t 107)),
 aM 109 17,
 aI 110 (.bin .mul (.c (.int .i64 2)) (.t 109)),
 aI 111 (.bin .add (.t 108) (.t 110)),
 aM 112 15,
 aI 113 (.bin .shr (.t 112) (.c (.int .u64 1))),
 aI 114 (.bin .and (.t 113) (.c (.int .u16 1))),
 aI 115 (.conv .i64 (.t 114)),
 aI 116 (.bin .add (.t 111) (.t 115)),
 aN 18 116]
abbrev zz0_r26:List AI:=[
 aM 117 15,
 aI 118 (.bin .and (.t 117) (.c (.int .u16 1))),
 aI 119 (.bin .eql (.t 118) (.c (.int .u16 0)))]
abbrev zz0_r27:List AI:=[
 aM 120 15,
 aI 121 (.bin .and (.t 120) (.c (.int .u16 4))),
 aI 122 (.bin .eql (.t 121) (.c (.int .u16 0)))]
abbrev zz0_r28:List AI:=[
 aM 123 8,
 aM 124 18,
 aI 125 (.call (.c (.fn f_zz75)) [(.t 123),(.t 124)] 0)]
abbrev zz0_r29:List AI:=[
 aM 126 8,
 aM 127 18,
 aM 128 15,
 aI 129 (.bin .shr (.t 128) (.c (.int .u64 3))),
 aI 130 (.conv .i64 (.t 129)),
 aI 131 (.bin .rem (.t 130) (.c (.int .i64 512))),
 aI 132 (.call (.c (.fn f_zz65)) [(.t 126),(.t 127),(.t 131)] 0)]
abbrev zz0_r30:List AI:=[
 aM 134 8,
 aM 135 18,
 aI 136 (.call (.c (.fn f_zz66)) [(.t 134),(.t 135)] 0),
 aM 133 136,
 aI 137 (.ext (.t 133) 0),
 aI 138 (.ext (.t 133) 1),
 aI 19 (.alloc (zr 64 (.int .u8 0))),
 aS (.store 64 (.t 19) (.t 137) .any),
 aN 20 138]
abbrev zz0_r31:List AI:=[
 aM 139 20,
 aI 140 (.bin .eql (.t 139) (.c (.int .i64 0))),
 aM 141 140,
 aT 142 141 (.mv false (.t 17)),
 aT 143 141 (.bin .eql (.t 142) (.c (.int .i64 0))),
 aT 144 141 (.mv false (.t 143)),
 aT 145 144 (.load true 64 (.t 19) .any),
 aT 146 144 (.mv false (.t 16)),
 aT 147 144 (.call (.c (.fn f_zz22)) [(.t 145),(.t 146)] 0),
 aT 148 141 (.pick (.t 144) (.t 147) (.c (.bool false))),
 aT 149 141 (.mv false (.t 148)),
 aF 150 149 (.mv false (.t 17)),
 aF 151 149 (.bin .gtr (.t 150) (.c (.int .i64 0))),
 aF 152 149 (.mv false (.t 151)),
 aT 153 152 (.load true 64 (.t 19) .any),
 aT 154 152 (.mv false (.t 16)),
 aT 155 152 (.mv false (.t 17)),
 aT 156 152 (.bin .sub (.t 155) (.c (.int .i64 1))),
 aT 157 152 (.call (.c (.fn f_zz14)) [(.t 153),(.t 154),(.t 156)] 0),
 aF 158 149 (.pick (.t 152) (.t 157) (.c (.bool false))),
 aT 159 141 (.pick (.t 149) (.c (.bool true)) (.t 158)),
 aI 160 (.pick (.t 141) (.t 159) (.c (.bool false)))]
abbrev zz0_r32:List AI:=[
 aI 161 (.call (.c (.fn f_zz33)) [] 0),
 aN 6 161]
abbrev zz0_r33:List AI:=[
 aI 162 (.bin .add (.t 90) (.c (.int .i64 1))),
 aM 90 162]
abbrev zz0_l1:ACode:=.seq (.reg false zz0_r21) (.seq (.cond (.t 91) (.skip) (.exit 2)) (.seq (.block 3 (.seq (.reg false zz0_r22) (.seq (.reg false zz0_r23) (.seq (.seq (.reg false zz0_r24) (.cond (.t 104) (.exit 3) (.skip))) (.seq (.reg false zz0_r25) (.seq (.seq (.reg false zz0_r26) (.cond (.t 119) (.exit 3) (.skip))) (.seq (.seq (.reg false zz0_r27) (.cond (.t 122) (.seq (.reg false zz0_r28) (.exit 3)) (.skip))) (.seq (.reg false zz0_r29) (.seq (.reg false zz0_r30) (.seq (.reg false zz0_r31) (.cond (.t 160) (.seq (.reg false zz0_r32) (.ret)) (.skip)))))))))))) (.reg false zz0_r33)))
abbrev zz0_r34:List AI:=[
 aM 164 8,
 aM 165 7,
 aI 166 (.call (.c (.fn f_zz79)) [(.t 164),(.c (.int .i64 0)),(.t 165)] 0),
 aM 163 166,
 aI 167 (.ext (.t 163) 0),
 aI 168 (.ext (.t 163) 1),
 aN 21 167,
 aN 22 168]
abbrev zz0_r35:List AI:=[
 aI 169 (.call (.c (.fn f_zz33)) [] 0),
 aM 170 169,
 aT 171 170 (.mv false (.t 22)),
 aT 172 170 (.bin .eql (.t 171) (.c (.int .i64 0))),
 aI 173 (.pick (.t 170) (.t 172) (.c (.bool false))),
 aM 174 173,
 aT 175 174 (.mv false (.t 21)),
 aT 176 174 (.gd (.pnil 0 true) [(.t 175)]),
 aI 177 (.pick (.t 174) (.t 176) (.c (.bool false))),
 aM 178 177,
 aT 179 178 (.mv false (.t 21)),
 aT 180 178 (.call (.c (.fn f_zz7)) [(.t 179)] 0),
 aT 181 178 (.mv false (.t 13)),
 aT 182 178 (.call (.c (.fn f_zz49)) [(.t 180),(.t 181)] 0),
 aI 183 (.pick (.t 178) (.t 182) (.c (.bool false))),
 aN 6 183]
abbrev zz0_c:ACode:=.seq (.reg false zz0_r0) (.seq (.seq (.reg false zz0_r1) (.cond (.t 36) (.seq (.reg false zz0_r2) (.ret)) (.skip))) (.seq (.reg false zz0_r3) (.seq (.reg false zz0_r4) (.seq (.seq (.reg false zz0_r5) (.cond (.t 51) (.seq (.reg false zz0_r6) (.ret)) (.skip))) (.seq (.reg false zz0_r7) (.seq (.seq (.reg false zz0_r8) (.cond (.t 63) (.seq (.reg false zz0_r9) (.ret)) (.skip))) (.seq (.seq (.reg false zz0_r10) (.block 0 (.loop zz0_l0))) (.seq (.seq (.reg false zz0_r15) (.cond (.t 77) (.seq (.reg false zz0_r16) (.ret)) (.skip))) (.seq (.seq (.reg false zz0_r17) (.cond (.t 81) (.reg false zz0_r18) (.skip))) (.seq (.reg false zz0_r19) (.seq (.seq (.reg false zz0_r20) (.block 2 (.loop zz0_l1))) (.seq (.reg false zz0_r34) (.seq (.reg false zz0_r35) (.ret))))))))))))))
def zz0_F:AFunc:=⟨184,[.tmp 6],zz0_c⟩
theorem zz0_cp:ze Tryz.prog [] f_zz0=some zz0_F:=by kernel_rfl
abbrev zz79_r0:List AI:=[
 aI 6 (.mv true (.c .nilP)),
 aI 7 (.mv true (.c (.int .i64 0)))]
abbrev zz79_r1:List AI:=[
 aM 15 0,
 aM 16 1,
 aM 17 2,
 aI 18 (.call (.c (.fn f_zz80)) [(.t 15),(.t 16),(.t 17)] 0),
 aM 14 18,
 aI 19 (.ext (.t 14) 0),
 aI 20 (.ext (.t 14) 1),
 aI 8 (.alloc [.nilP,(.int .i64 0),(.int .i64 0)]),
 aS (.store 3 (.t 8) (.t 19) .any),
 aN 9 20]
abbrev zz79_r2:List AI:=[
 aM 21 9,
 aI 22 (.bin .neq (.t 21) (.c (.int .i64 0)))]
abbrev zz79_r3:List AI:=[
 aM 23 9,
 aI 6 (.mv true (.c .nilP)),
 aN 7 23]
abbrev zz79_r4:List AI:=[
 aI 25 (.load true 3 (.t 8) .any),
 aI 26 (.call (.c (.fn f_zz21)) [(.t 25)] 0),
 aM 24 26,
 aI 27 (.ext (.t 24) 0),
 aI 28 (.ext (.t 24) 1),
 aI 29 (.ext (.t 24) 2),
 aI 10 (.alloc [(.int .i64 0),(.int .i64 0),(.int .i64 0),(.int .i64 0)]),
 aI 11 (.alloc [(.bool false),(.bool false)]),
 aS (.store 4 (.t 10) (.t 27) .any),
 aS (.store 2 (.t 11) (.t 28) .any),
 aN 12 29]
abbrev zz79_r5:List AI:=[
 aI 31 (.iaddrA 2 1 (.t 11) (.c (.int .i64 0))),
 aI 32 (.load false 1 (.t 31) .any),
 aI 33 (.not (.t 32)),
 aM 34 33,
 aT 35 34 (.iaddrA 2 1 (.t 11) (.c (.int .i64 1))),
 aT 36 34 (.load false 1 (.t 35) .any),
 aT 37 34 (.not (.t 36)),
 aI 38 (.pick (.t 34) (.t 37) (.c (.bool false))),
 aN 30 38]
abbrev zz79_r6:List AI:=[
 aI 6 (.mv true (.c .nilP)),
 aI 7 (.mv true (.c (.int .i64 14)))]
abbrev zz79_r7:List AI:=[
 aM 40 12,
 aI 41 (.bin .gtr (.t 40) (.c (.int .i64 4294967295))),
 aN 39 41]
abbrev zz79_r8:List AI:=[
 aI 6 (.mv true (.c .nilP)),
 aI 7 (.mv true (.c (.int .i64 2)))]
abbrev zz79_b0:ACode:=.seq (.reg false zz79_r7) (.cond (.t 39) (.seq (.reg false zz79_r8) (.ret)) (.skip))
abbrev zz79_r9:List AI:=[
 aI 42 (.load true 3 (.t 8) .any),
 aI 43 (.build ([.nilP,(.int .i64 0),(.int .i64 0),(.int .i64 0),(.int .i64 0),(.int .i64 0),(.int .i64 0)]++zr 8 (.int .u8 0)++[.nilS]) [(0,3,(.t 42))]),
 aI 44 (.gn (.box 16) [(.t 43)]),
 aN 13 44]
abbrev zz79_r10:List AI:=[
 aI 45 (.iaddrA 2 1 (.t 11) (.c (.int .i64 0))),
 aI 46 (.load false 1 (.t 45) .any),
 aI 47 (.not (.t 46)),
 aM 48 47,
 aF 49 48 (.iaddrA 2 1 (.t 11) (.c (.int .i64 1))),
 aF 50 48 (.load false 1 (.t 49) .any),
 aF 51 48 (.mv false (.t 50)),
 aT 52 51 (.iaddrA 2 2 (.t 10) (.c (.int .i64 1))),
 aT 53 51 (.faddr 0 (.t 52)),
 aT 54 51 (.load false 1 (.t 53) .any),
 aT 55 51 (.iaddrA 2 2 (.t 10) (.c (.int .i64 0))),
 aT 56 51 (.faddr 0 (.t 55)),
 aT 57 51 (.load false 1 (.t 56) .any),
 aT 58 51 (.bin .gtr (.t 54) (.t 57)),
 aF 59 48 (.pick (.t 51) (.t 58) (.c (.bool false))),
 aI 60 (.pick (.t 48) (.c (.bool true)) (.t 59))]
abbrev zz79_r11:List AI:=[
 aM 61 13,
 aI 62 (.nilck (.t 61)),
 aI 63 (.faddr 5 (.t 62)),
 aS (.store 1 (.t 63) (.c (.int .i64 1)) .any)]
abbrev zz79_r12:List AI:=[
 aM 64 13,
 aM 65 13,
 aI 66 (.nilck (.t 65)),
 aI 67 (.faddr 5 (.t 66)),
 aI 68 (.load false 1 (.t 67) .any),
 aI 69 (.iaddrA 2 2 (.t 10) (.t 68)),
 aI 70 (.load true 2 (.t 69) .any),
 aI 71 (.nilck (.t 64)),
 aI 72 (.faddr 3 (.t 71)),
 aS (.store 2 (.t 72) (.t 70) .any)]
abbrev zz79_r13:List AI:=[
 aM 73 13,
 aM 74 13,
 aI 75 (.nilck (.t 74)),
 aI 76 (.faddr 3 (.t 75)),
 aI 77 (.load true 2 (.t 76) .foreign),
 aM 78 13,
 aI 79 (.nilck (.t 78)),
 aI 80 (.faddr 5 (.t 79)),
 aI 81 (.load false 1 (.t 80) .foreign),
 aI 82 (.call (.c (.fn f_zz29)) [(.t 77),(.t 81)] 1),
 aI 83 (.call (.c (.fn f_zz73)) [(.t 82)] 1),
 aI 84 (.nilck (.t 73)),
 aI 85 (.faddr 7 (.t 84)),
 aS (.store 8 (.t 85) (.t 83) .gp)]
abbrev zz79_r14:List AI:=[
 aM 86 13,
 aI 87 (.call (.c (.fn f_zz24)) [(.t 86)] 0)]
abbrev zz79_r15:List AI:=[
 aM 88 13,
 aM 89 12,
 aI 90 (.nilck (.t 88)),
 aI 91 (.faddr 3 (.t 90)),
 aI 92 (.faddr 1 (.t 91)),
 aS (.store 1 (.t 92) (.t 89) .any)]
abbrev zz79_r16:List AI:=[
 aM 93 13,
 aN 6 93,
 aI 7 (.mv true (.c (.int .i64 0)))]
abbrev zz79_c:ACode:=.seq (.reg false zz79_r0) (.seq (.reg false zz79_r1) (.seq (.seq (.reg false zz79_r2) (.cond (.t 22) (.seq (.reg false zz79_r3) (.ret)) (.skip))) (.seq (.reg false zz79_r4) (.seq (.block 0 (.seq (.reg false zz79_r5) (.cond (.t 30) (.seq (.reg false zz79_r6) (.ret)) (zz79_b0)))) (.seq (.reg false zz79_r9) (.seq (.seq (.reg false zz79_r10) (.cond (.t 60) (.reg false zz79_r11) (.skip))) (.seq (.reg false zz79_r12) (.seq (.reg true zz79_r13) (.seq (.reg false zz79_r14) (.seq (.reg false zz79_r15) (.seq (.reg false zz79_r16) (.ret))))))))))))
def zz79_F:AFunc:=⟨94,[.tmp 6,.tmp 7],zz79_c⟩
theorem zz79_cp:ze Tryz.prog [44] f_zz79=some zz79_F:=by kernel_rfl
abbrev zz70_r0:List AI:=[
 aI 6 (.mv true (.c (.int .i64 0)))]
abbrev zz70_r1:List AI:=[
 aM 13 0,
 aM 14 1,
 aM 15 2,
 aI 16 (.call (.c (.fn f_zz80)) [(.t 13),(.t 14),(.t 15)] 0),
 aM 12 16,
 aI 17 (.ext (.t 12) 0),
 aI 18 (.ext (.t 12) 1),
 aI 7 (.alloc [.nilP,(.int .i64 0),(.int .i64 0)]),
 aS (.store 3 (.t 7) (.t 17) .any),
 aN 8 18]
abbrev zz70_r2:List AI:=[
 aM 19 8,
 aI 20 (.bin .neq (.t 19) (.c (.int .i64 0)))]
abbrev zz70_r3:List AI:=[
 aM 21 8,
 aN 6 21]
abbrev zz70_r4:List AI:=[
 aI 23 (.load true 3 (.t 7) .any),
 aI 24 (.call (.c (.fn f_zz21)) [(.t 23)] 0),
 aM 22 24,
 aI 25 (.ext (.t 22) 0),
 aI 26 (.ext (.t 22) 1),
 aI 27 (.ext (.t 22) 2),
 aI 9 (.alloc [(.int .i64 0),(.int .i64 0),(.int .i64 0),(.int .i64 0)]),
 aI 10 (.alloc [(.bool false),(.bool false)]),
 aS (.store 4 (.t 9) (.t 25) .any),
 aS (.store 2 (.t 10) (.t 26) .any),
 aN 11 27]
abbrev zz70_r5:List AI:=[
 aM 28 11,
 aI 29 (.bin .gtr (.t 28) (.c (.int .i64 4294967295)))]
abbrev zz70_r6:List AI:=[
 aI 6 (.mv true (.c (.int .i64 2)))]
abbrev zz70_r7:List AI:=[
 aI 30 (.load true 3 (.t 7) (.site 7)),
 aI 31 (.load true 3 (.t 7) (.site 7)),
 aM 33 11,
 aI 34 (.build [(.int .i64 0),(.int .i64 0)] [(0,1,(.c (.int .i64 1))),(1,1,(.t 33))]),
 aI 32 (.call (.c (.fn f_zz32)) [(.t 31),(.c (.int .i64 0))] 2),
 aI 35 (.call (.c (.fn f_zz29)) [(.t 34),(.c (.int .i64 0))] 2),
 aI 36 (.call (.c (.fn f_zz44)) [(.t 30),(.t 32),(.t 35)] 2),
 aI 37 (.bin .neq (.t 36) (.c (.int .i64 0))),
 aM 38 37,
 aF 39 38 (.load true 3 (.t 7) (.site 7)),
 aF 40 38 (.load true 3 (.t 7) (.site 7)),
 aF 42 38 (.build (zr 64 (.int .u8 0)) []),
 aF 41 38 (.call (.c (.fn f_zz32)) [(.t 40),(.c (.int .i64 1))] 2),
 aF 43 38 (.call (.c (.fn f_zz44)) [(.t 39),(.t 41),(.t 42)] 2),
 aF 44 38 (.bin .neq (.t 43) (.c (.int .i64 0))),
 aI 45 (.pick (.t 38) (.c (.bool true)) (.t 44))]
abbrev zz70_r8:List AI:=[
 aI 6 (.mv true (.c (.int .i64 12)))]
abbrev zz70_r9:List AI:=[
 aI 46 (.faddr 0 (.t 7)),
 aI 47 (.load false 1 (.t 46) .any),
 aI 48 (.call (.c (.fn f_zz68)) [(.t 47)] 0),
 aN 6 48]
abbrev zz70_c:ACode:=.seq (.reg false zz70_r0) (.seq (.reg false zz70_r1) (.seq (.seq (.reg false zz70_r2) (.cond (.t 20) (.seq (.reg false zz70_r3) (.ret)) (.skip))) (.seq (.reg false zz70_r4) (.seq (.seq (.reg false zz70_r5) (.cond (.t 29) (.seq (.reg false zz70_r6) (.ret)) (.skip))) (.seq (.seq (.reg true zz70_r7) (.cond (.t 45) (.seq (.reg false zz70_r8) (.ret)) (.skip))) (.seq (.reg false zz70_r9) (.ret)))))))
def zz70_F:AFunc:=⟨49,[.tmp 6],zz70_c⟩
theorem zz70_cp:ze Tryz.prog [] f_zz70=some zz70_F:=by kernel_rfl
abbrev zz33_r0:List AI:=[
 aI 0 (.mv true (.c (.bool false)))]
abbrev zz33_r1:List AI:=[
 aI 9 (.call (.c (.fn f_zz90)) [(.c (.int .i64 20))] 0),
 aN 1 9]
abbrev zz33_r2:List AI:=[
 aM 10 1,
 aI 11 (.gd (.pnil 0 false) [(.t 10)]),
 aM 12 11,
 aF 13 12 (.mv false (.t 1)),
 aF 14 12 (.call (.c (.fn f_zz70)) [(.t 13),(.c (.int .i64 0)),(.c (.int .i64 20))] 0),
 aF 15 12 (.bin .neq (.t 14) (.c (.int .i64 0))),
 aI 16 (.pick (.t 12) (.c (.bool true)) (.t 15))]
abbrev zz33_r3:List AI:=[
 aI 0 (.mv true (.c (.bool false)))]
abbrev zz33_r4:List AI:=[
 aM 18 1,
 aI 19 (.call (.c (.fn f_zz79)) [(.t 18),(.c (.int .i64 0)),(.c (.int .i64 20))] 0),
 aM 17 19,
 aI 20 (.ext (.t 17) 0),
 aI 21 (.ext (.t 17) 1),
 aN 2 20,
 aN 3 21]
abbrev zz33_r5:List AI:=[
 aM 22 3,
 aI 23 (.bin .neq (.t 22) (.c (.int .i64 0))),
 aM 24 23,
 aF 25 24 (.mv false (.t 2)),
 aF 26 24 (.gd (.pnil 0 false) [(.t 25)]),
 aI 27 (.pick (.t 24) (.c (.bool true)) (.t 26)),
 aM 28 27,
 aF 29 28 (.mv false (.t 2)),
 aF 30 28 (.call (.c (.fn f_zz23)) [(.t 29)] 0),
 aF 31 28 (.bin .neq (.t 30) (.c (.int .i64 4))),
 aI 32 (.pick (.t 28) (.c (.bool true)) (.t 31)),
 aM 33 32,
 aF 34 33 (.mv false (.t 2)),
 aF 35 33 (.call (.c (.fn f_zz7)) [(.t 34)] 0),
 aF 36 33 (.len false (.t 35)),
 aF 37 33 (.bin .neq (.t 36) (.c (.int .i64 0))),
 aI 38 (.pick (.t 33) (.c (.bool true)) (.t 37))]
abbrev zz33_r6:List AI:=[
 aI 0 (.mv true (.c (.bool false)))]
abbrev zz33_r7:List AI:=[
 aM 39 2,
 aI 40 (.call (.c (.fn f_zz15)) [(.t 39),(.c (.str [97]))] 0),
 aI 41 (.bin .neq (.t 40) (.c (.int .i64 0))),
 aM 42 41,
 aF 43 42 (.mv false (.t 2)),
 aF 44 42 (.call (.c (.fn f_zz46)) [(.c (.int .i64 31))] 0),
 aF 45 42 (.call (.c (.fn f_zz15)) [(.t 43),(.t 44)] 0),
 aF 46 42 (.bin .neq (.t 45) (.c (.int .i64 0))),
 aI 47 (.pick (.t 42) (.c (.bool true)) (.t 46)),
 aM 48 47,
 aF 49 48 (.mv false (.t 2)),
 aF 50 48 (.call (.c (.fn f_zz23)) [(.t 49)] 0),
 aF 51 48 (.bin .neq (.t 50) (.c (.int .i64 1))),
 aI 52 (.pick (.t 48) (.c (.bool true)) (.t 51)),
 aM 53 52,
 aF 54 53 (.mv false (.t 2)),
 aF 55 53 (.call (.c (.fn f_zz16)) [(.t 54)] 0),
 aF 56 53 (.bin .neq (.t 55) (.c (.int .i64 0))),
 aI 57 (.pick (.t 53) (.c (.bool true)) (.t 56)),
 aM 58 57,
 aF 59 58 (.mv false (.t 2)),
 aF 60 58 (.call (.c (.fn f_zz15)) [(.t 59),(.c (.str [98]))] 0),
 aF 61 58 (.bin .neq (.t 60) (.c (.int .i64 0))),
 aI 62 (.pick (.t 58) (.c (.bool true)) (.t 61))]
abbrev zz33_r8:List AI:=[
 aI 0 (.mv true (.c (.bool false)))]
abbrev zz33_r9:List AI:=[
 aM 63 1,
 aI 64 (.mkslice 1 1 (.int .i64 0) [(0,(.c (.int .i64 0)))]),
 aI 65 (.call (.c (.fn f_zz58)) [(.t 63),(.t 64)] 0),
 aN 1 65]
abbrev zz33_r10:List AI:=[
 aM 67 1,
 aI 68 (.call (.c (.fn f_zz79)) [(.t 67),(.c (.int .i64 0)),(.c (.int .i64 20))] 0),
 aM 66 68,
 aI 69 (.ext (.t 66) 0),
 aI 70 (.ext (.t 66) 1),
 aN 4 69,
 aN 5 70]
abbrev zz33_r11:List AI:=[
 aM 71 5,
 aI 72 (.bin .neq (.t 71) (.c (.int .i64 0))),
 aM 73 72,
 aF 74 73 (.mv false (.t 4)),
 aF 75 73 (.gd (.pnil 0 false) [(.t 74)]),
 aI 76 (.pick (.t 73) (.c (.bool true)) (.t 75)),
 aM 77 76,
 aF 78 77 (.mv false (.t 4)),
 aF 79 77 (.call (.c (.fn f_zz7)) [(.t 78)] 0),
 aF 80 77 (.call (.c (.fn f_zz46)) [(.c (.int .i64 31))] 0),
 aF 81 77 (.mkslice 1 2 (.str []) [(0,(.c (.str [97]))),(1,(.t 80))]),
 aF 82 77 (.call (.c (.fn f_zz49)) [(.t 79),(.t 81)] 0),
 aF 83 77 (.not (.t 82)),
 aI 84 (.pick (.t 77) (.c (.bool true)) (.t 83)),
 aM 85 84,
 aF 86 85 (.mv false (.t 4)),
 aF 87 85 (.call (.c (.fn f_zz46)) [(.c (.int .i64 31))] 0),
 aF 88 85 (.call (.c (.fn f_zz15)) [(.t 86),(.t 87)] 0),
 aF 89 85 (.bin .neq (.t 88) (.c (.int .i64 13))),
 aI 90 (.pick (.t 85) (.c (.bool true)) (.t 89))]
abbrev zz33_r12:List AI:=[
 aI 0 (.mv true (.c (.bool false)))]
abbrev zz33_r13:List AI:=[
 aM 91 4,
 aI 92 (.mkslice 1 1 (.str []) [(0,(.c (.str [99])))]),
 aI 93 (.call (.c (.fn f_zz8)) [(.t 91),(.t 92)] 0),
 aI 94 (.bin .neq (.t 93) (.c (.int .i64 0))),
 aM 95 94,
 aF 96 95 (.mv false (.t 4)),
 aF 97 95 (.call (.c (.fn f_zz2)) [(.t 96)] 0),
 aF 98 95 (.bin .neq (.t 97) (.c (.int .i64 2))),
 aI 99 (.pick (.t 95) (.c (.bool true)) (.t 98)),
 aM 100 99,
 aF 101 100 (.mv false (.t 4)),
 aF 102 100 (.call (.c (.fn f_zz7)) [(.t 101)] 0),
 aF 103 100 (.mkslice 1 1 (.str []) [(0,(.c (.str [99])))]),
 aF 104 100 (.call (.c (.fn f_zz49)) [(.t 102),(.t 103)] 0),
 aF 105 100 (.not (.t 104)),
 aI 106 (.pick (.t 100) (.c (.bool true)) (.t 105)),
 aM 107 106,
 aF 108 107 (.mv false (.t 4)),
 aF 109 107 (.call (.c (.fn f_zz23)) [(.t 108)] 0),
 aF 110 107 (.bin .neq (.t 109) (.c (.int .i64 3))),
 aI 111 (.pick (.t 107) (.c (.bool true)) (.t 110))]
abbrev zz33_r14:List AI:=[
 aI 0 (.mv true (.c (.bool false)))]
abbrev zz33_r15:List AI:=[
 aM 112 1,
 aI 113 (.call (.c (.fn f_zz75)) [(.t 112),(.c (.int .i64 10))] 0),
 aI 114 (.bin .eql (.t 113) (.c (.int .i64 0))),
 aM 115 114,
 aT 116 115 (.mv false (.t 1)),
 aT 117 115 (.call (.c (.fn f_zz75)) [(.t 116),(.c (.int .i64 13))] 0),
 aT 118 115 (.bin .eql (.t 117) (.c (.int .i64 0))),
 aI 119 (.pick (.t 115) (.t 118) (.c (.bool false))),
 aN 6 119]
abbrev zz33_r16:List AI:=[
 aM 121 1,
 aI 122 (.call (.c (.fn f_zz79)) [(.t 121),(.c (.int .i64 0)),(.c (.int .i64 20))] 0),
 aM 120 122,
 aI 123 (.ext (.t 120) 0),
 aI 124 (.ext (.t 120) 1),
 aN 7 123,
 aN 8 124]
abbrev zz33_r17:List AI:=[
 aM 125 6,
 aM 126 125,
 aT 127 126 (.mv false (.t 8)),
 aT 128 126 (.bin .eql (.t 127) (.c (.int .i64 0))),
 aI 129 (.pick (.t 126) (.t 128) (.c (.bool false))),
 aM 130 129,
 aT 131 130 (.mv false (.t 7)),
 aT 132 130 (.gd (.pnil 0 true) [(.t 131)]),
 aI 133 (.pick (.t 130) (.t 132) (.c (.bool false))),
 aM 134 133,
 aT 135 134 (.mv false (.t 7)),
 aT 136 134 (.call (.c (.fn f_zz7)) [(.t 135)] 0),
 aT 137 134 (.mkslice 1 1 (.str []) [(0,(.c (.str [99])))]),
 aT 138 134 (.call (.c (.fn f_zz49)) [(.t 136),(.t 137)] 0),
 aI 139 (.pick (.t 134) (.t 138) (.c (.bool false))),
 aN 0 139]
abbrev zz33_c:ACode:=.seq (.reg false zz33_r0) (.seq (.reg false zz33_r1) (.seq (.seq (.reg false zz33_r2) (.cond (.t 16) (.seq (.reg false zz33_r3) (.ret)) (.skip))) (.seq (.reg false zz33_r4) (.seq (.seq (.reg false zz33_r5) (.cond (.t 38) (.seq (.reg false zz33_r6) (.ret)) (.skip))) (.seq (.seq (.reg false zz33_r7) (.cond (.t 62) (.seq (.reg false zz33_r8) (.ret)) (.skip))) (.seq (.reg false zz33_r9) (.seq (.reg false zz33_r10) (.seq (.seq (.reg false zz33_r11) (.cond (.t 90) (.seq (.reg false zz33_r12) (.ret)) (.skip))) (.seq (.seq (.reg false zz33_r13) (.cond (.t 111) (.seq (.reg false zz33_r14) (.ret)) (.skip))) (.seq (.reg false zz33_r15) (.seq (.reg false zz33_r16) (.seq (.reg false zz33_r17) (.ret)))))))))))))
def zz33_F:AFunc:=⟨140,[.tmp 0],zz33_c⟩
theorem zz33_cp:ze Tryz.prog [] f_zz33=some zz33_F:=by kernel_rfl
-- loop 0: [13, 14, 15, 36, 37, 38]
-- loop 1: [13, 14, 15]
abbrev zz53_r0:List AI:=[
 aI 4 (.mv true (.c (.bool false)))]
abbrev zz53_r1:List AI:=[
 aM 9 0,
 aI 10 (.len false (.t 9)),
 aM 11 1,
 aI 12 (.bin .gtr (.t 10) (.t 11))]
abbrev zz53_r2:List AI:=[
 aI 4 (.mv true (.c (.bool false)))]
abbrev zz53_r3:List AI:=[
 aM 13 0,
 aI 14 (.len false (.t 13)),
 aI 15 (.mv false (.c (.int .i64 0)))]
abbrev zz53_r4:List AI:=[
 aI 16 (.bin .lss (.t 15) (.t 14))]
abbrev zz53_r5:List AI:=[
 aI 17 (.iaddr 6 (.t 13) (.t 15)),
 aI 18 (.load true 6 (.t 17) .any),
 aI 6 (.alloc [(.int .u8 0),(.str []),.nilS,(.int .i64 0),(.int .i64 0),.nilS]),
 aS (.store 6 (.t 6) (.t 18) .any)]
abbrev zz53_r6:List AI:=[
 aI 19 (.faddr 1 (.t 6)),
 aI 20 (.load false 1 (.t 19) .any),
 aI 21 (.len true (.t 20)),
 aI 22 (.bin .gtr (.t 21) (.c (.int .i64 1100))),
 aM 23 22,
 aF 24 23 (.faddr 2 (.t 6)),
 aF 25 23 (.load false 1 (.t 24) .any),
 aF 26 23 (.len false (.t 25)),
 aF 27 23 (.bin .gtr (.t 26) (.c (.int .i64 12))),
 aI 28 (.pick (.t 23) (.c (.bool true)) (.t 27)),
 aM 29 28,
 aF 30 29 (.faddr 5 (.t 6)),
 aF 31 29 (.load false 1 (.t 30) .any),
 aF 32 29 (.len false (.t 31)),
 aF 33 29 (.bin .gtr (.t 32) (.c (.int .i64 60))),
 aI 34 (.pick (.t 29) (.c (.bool true)) (.t 33))]
abbrev zz53_r7:List AI:=[
 aI 4 (.mv true (.c (.bool false)))]
abbrev zz53_r8:List AI:=[
 aI 35 (.faddr 2 (.t 6)),
 aI 36 (.load false 1 (.t 35) .any),
 aI 37 (.len false (.t 36)),
 aI 38 (.mv false (.c (.int .i64 0)))]
abbrev zz53_r9:List AI:=[
 aI 39 (.bin .lss (.t 38) (.t 37))]
abbrev zz53_r10:List AI:=[
 aI 40 (.iaddr 1 (.t 36) (.t 38)),
 aI 41 (.load false 1 (.t 40) .any),
 aN 8 41]
abbrev zz53_r11:List AI:=[
 aM 42 8,
 aI 43 (.len true (.t 42)),
 aI 44 (.bin .gtr (.t 43) (.c (.int .i64 1100)))]
abbrev zz53_r12:List AI:=[
 aI 4 (.mv true (.c (.bool false)))]
abbrev zz53_r13:List AI:=[
 aI 45 (.bin .add (.t 38) (.c (.int .i64 1))),
 aM 38 45]
abbrev zz53_l0:ACode:=.seq (.reg false zz53_r9) (.seq (.cond (.t 39) (.skip) (.exit 2)) (.seq (.block 3 (.seq (.reg false zz53_r10) (.seq (.reg false zz53_r11) (.cond (.t 44) (.seq (.reg false zz53_r12) (.ret)) (.skip))))) (.reg false zz53_r13)))
abbrev zz53_r14:List AI:=[
 aI 46 (.bin .add (.t 15) (.c (.int .i64 1))),
 aM 15 46]
abbrev zz53_l1:ACode:=.seq (.reg false zz53_r4) (.seq (.cond (.t 16) (.skip) (.exit 0)) (.seq (.block 1 (.seq (.reg false zz53_r5) (.seq (.seq (.reg false zz53_r6) (.cond (.t 34) (.seq (.reg false zz53_r7) (.ret)) (.skip))) (.seq (.reg false zz53_r8) (.block 2 (.loop zz53_l0)))))) (.reg false zz53_r14)))
abbrev zz53_r15:List AI:=[
 aI 4 (.mv true (.c (.bool true)))]
abbrev zz53_c:ACode:=.seq (.reg false zz53_r0) (.seq (.seq (.reg false zz53_r1) (.cond (.t 12) (.seq (.reg false zz53_r2) (.ret)) (.skip))) (.seq (.seq (.reg false zz53_r3) (.block 0 (.loop zz53_l1))) (.seq (.reg false zz53_r15) (.ret))))
def zz53_F:AFunc:=⟨47,[.tmp 4],zz53_c⟩
theorem zz53_cp:ze Tryz.prog [] f_zz53=some zz53_F:=by kernel_rfl
abbrev zz15_r0:List AI:=[
 aI 4 (.mv true (.c (.int .i64 0)))]
abbrev zz15_r1:List AI:=[
 aM 8 1,
 aI 9 (.len true (.t 8)),
 aI 10 (.bin .gtr (.t 9) (.c (.int .i64 1000))),
 aN 7 10]
abbrev zz15_r2:List AI:=[
 aI 4 (.mv true (.c (.int .i64 1)))]
abbrev zz15_r3:List AI:=[
 aM 12 1,
 aI 13 (.call (.c (.fn f_zz84)) [(.t 12)] 0),
 aI 14 (.len false (.t 13)),
 aM 15 0,
 aI 16 (.call (.c (.fn f_zz23)) [(.t 15)] 0),
 aI 17 (.bin .gtr (.t 14) (.t 16)),
 aN 11 17]
abbrev zz15_r4:List AI:=[
 aI 4 (.mv true (.c (.int .i64 13)))]
abbrev zz15_b0:ACode:=.seq (.reg false zz15_r3) (.cond (.t 11) (.seq (.reg false zz15_r4) (.ret)) (.skip))
abbrev zz15_r5:List AI:=[
 aM 18 0,
 aI 19 (.nilck (.t 18)),
 aI 20 (.load true 16 (.t 19) .any),
 aI 5 (.alloc ([.nilP,(.int .i64 0),(.int .i64 0),(.int .i64 0),(.int .i64 0),(.int .i64 0),(.int .i64 0)]++zr 8 (.int .u8 0)++[.nilS])),
 aS (.store 16 (.t 5) (.t 20) .any)]
abbrev zz15_r6:List AI:=[
 aM 21 0,
 aM 22 1,
 aI 23 (.call (.c (.fn f_zz28)) [(.t 21),(.t 22)] 0),
 aN 6 23]
abbrev zz15_r7:List AI:=[
 aM 24 6,
 aI 25 (.bin .neq (.t 24) (.c (.int .i64 0)))]
abbrev zz15_r8:List AI:=[
 aM 26 0,
 aI 27 (.load true 16 (.t 5) .any),
 aI 28 (.nilck (.t 26)),
 aS (.store 16 (.t 28) (.t 27) .any)]
abbrev zz15_r9:List AI:=[
 aM 29 6,
 aN 4 29]
abbrev zz15_c:ACode:=.seq (.reg false zz15_r0) (.seq (.block 0 (.seq (.reg false zz15_r1) (.cond (.t 7) (.seq (.reg false zz15_r2) (.ret)) (zz15_b0)))) (.seq (.reg false zz15_r5) (.seq (.reg false zz15_r6) (.seq (.seq (.reg false zz15_r7) (.cond (.t 25) (.reg false zz15_r8) (.skip))) (.seq (.reg false zz15_r9) (.ret))))))
def zz15_F:AFunc:=⟨30,[.tmp 4],zz15_c⟩
theorem zz15_cp:ze Tryz.prog [] f_zz15=some zz15_F:=by kernel_rfl
abbrev zz16_r0:List AI:=[
 aI 2 (.mv true (.c (.int .i64 0)))]
abbrev zz16_r1:List AI:=[
 aM 3 0,
 aI 4 (.nilck (.t 3)),
 aI 5 (.faddr 0 (.t 4)),
 aI 6 (.faddr 0 (.t 5)),
 aI 7 (.load false 1 (.t 6) .any),
 aI 8 (.call (.c (.fn f_zz68)) [(.t 7)] 0),
 aN 2 8]
abbrev zz16_c:ACode:=.seq (.reg false zz16_r0) (.seq (.reg false zz16_r1) (.ret))
def zz16_F:AFunc:=⟨9,[.tmp 2],zz16_c⟩
theorem zz16_cp:ze Tryz.prog [] f_zz16=some zz16_F:=by kernel_rfl
-- loop 0: [0, 1, 5, 13, 14, 15]
-- loop 1: [0, 8, 9, 73, 74, 75]
abbrev zz8_r0:List AI:=[
 aI 4 (.mv true (.c (.int .i64 0)))]
abbrev zz8_r1:List AI:=[
 aI 5 (.mv true (.c (.int .i64 0)))]
abbrev zz8_r2:List AI:=[
 aM 13 1,
 aI 14 (.len false (.t 13)),
 aI 15 (.mv false (.c (.int .i64 0)))]
abbrev zz8_r3:List AI:=[
 aI 16 (.bin .lss (.t 15) (.t 14))]
abbrev zz8_r4:List AI:=[
 aI 17 (.iaddr 1 (.t 13) (.t 15)),
 aI 18 (.load false 1 (.t 17) .any),
 aN 7 18]
abbrev zz8_r5:List AI:=[
 aM 19 7,
 aI 20 (.len true (.t 19)),
 aI 21 (.bin .gtr (.t 20) (.c (.int .i64 1000)))]
abbrev zz8_r6:List AI:=[
 aI 4 (.mv true (.c (.int .i64 1)))]
abbrev zz8_r7:List AI:=[
 aM 22 5,
 aM 23 7,
 aI 24 (.call (.c (.fn f_zz84)) [(.t 23)] 0),
 aI 25 (.len false (.t 24)),
 aI 26 (.bin .add (.t 22) (.t 25)),
 aN 5 26]
abbrev zz8_r8:List AI:=[
 aI 27 (.bin .add (.t 15) (.c (.int .i64 1))),
 aM 15 27]
abbrev zz8_l0:ACode:=.seq (.reg false zz8_r3) (.seq (.cond (.t 16) (.skip) (.exit 0)) (.seq (.block 1 (.seq (.reg false zz8_r4) (.seq (.seq (.reg false zz8_r5) (.cond (.t 21) (.seq (.reg false zz8_r6) (.ret)) (.skip))) (.reg false zz8_r7)))) (.reg false zz8_r8)))
abbrev zz8_r9:List AI:=[
 aM 29 5,
 aM 30 0,
 aI 31 (.nilck (.t 30)),
 aI 32 (.faddr 0 (.t 31)),
 aI 33 (.load true 3 (.t 32) .any),
 aI 34 (.call (.c (.fn f_zz37)) [(.t 33)] 0),
 aI 35 (.bin .gtr (.t 29) (.t 34)),
 aN 28 35]
abbrev zz8_r10:List AI:=[
 aI 4 (.mv true (.c (.int .i64 13)))]
abbrev zz8_r11:List AI:=[
 aM 37 0,
 aI 38 (.nilck (.t 37)),
 aI 39 (.faddr 3 (.t 38)),
 aI 40 (.faddr 0 (.t 39)),
 aI 41 (.load false 1 (.t 40) .any),
 aI 42 (.bin .eql (.t 41) (.c (.int .i64 4294967295))),
 aN 36 42]
abbrev zz8_r12:List AI:=[
 aI 4 (.mv true (.c (.int .i64 2)))]
abbrev zz8_b0:ACode:=.seq (.reg false zz8_r11) (.cond (.t 36) (.seq (.reg false zz8_r12) (.ret)) (.skip))
abbrev zz8_r13:List AI:=[
 aM 43 0,
 aI 44 (.nilck (.t 43)),
 aI 45 (.faddr 0 (.t 44)),
 aI 46 (.load true 3 (.t 45) .foreign),
 aM 47 0,
 aI 48 (.nilck (.t 47)),
 aI 49 (.faddr 3 (.t 48)),
 aI 50 (.faddr 0 (.t 49)),
 aI 51 (.load false 1 (.t 50) .foreign),
 aI 52 (.bin .add (.t 51) (.c (.int .i64 1))),
 aM 53 0,
 aI 54 (.nilck (.t 53)),
 aI 55 (.faddr 3 (.t 54)),
 aI 56 (.faddr 1 (.t 55)),
 aI 57 (.load false 1 (.t 56) .foreign),
 aI 58 (.build [(.int .i64 0),(.int .i64 0)] [(0,1,(.t 52)),(1,1,(.t 57))]),
 aM 59 0,
 aI 60 (.nilck (.t 59)),
 aI 61 (.faddr 5 (.t 60)),
 aI 62 (.load false 1 (.t 61) .foreign),
 aI 63 (.bin .sub (.c (.int .i64 1)) (.t 62)),
 aI 64 (.build ([.nilP,(.int .i64 0),(.int .i64 0),(.int .i64 0),(.int .i64 0),(.int .i64 0),(.int .i64 0)]++zr 8 (.int .u8 0)++[.nilS]) [(0,3,(.t 46)),(3,2,(.t 58)),(5,1,(.t 63))]),
 aI 8 (.gn (.alloc ([.nilP,(.int .i64 0),(.int .i64 0),(.int .i64 0),(.int .i64 0),(.int .i64 0),(.int .i64 0)]++zr 8 (.int .u8 0)++[.nilS])) []),
 aS (.store 16 (.t 8) (.t 64) .gp)]
abbrev zz8_r14:List AI:=[
 aI 65 (.faddr 3 (.t 8)),
 aI 66 (.load true 2 (.t 65) .any),
 aI 67 (.faddr 5 (.t 8)),
 aI 68 (.load false 1 (.t 67) .any),
 aI 69 (.call (.c (.fn f_zz29)) [(.t 66),(.t 68)] 0),
 aI 9 (.alloc (zr 64 (.int .u8 0))),
 aS (.store 64 (.t 9) (.t 69) .any)]
abbrev zz8_r15:List AI:=[
 aI 70 (.load true 64 (.t 9) .any),
 aI 71 (.call (.c (.fn f_zz73)) [(.t 70)] 0),
 aI 72 (.faddr 7 (.t 8)),
 aS (.store 8 (.t 72) (.t 71) .any)]
abbrev zz8_r16:List AI:=[
 aM 73 1,
 aI 74 (.len false (.t 73)),
 aI 75 (.mv false (.c (.int .i64 0)))]
abbrev zz8_r17:List AI:=[
 aI 76 (.bin .lss (.t 75) (.t 74))]
abbrev zz8_r18:List AI:=[
 aI 77 (.iaddr 1 (.t 73) (.t 75)),
 aI 78 (.load false 1 (.t 77) .any),
 aN 11 78]
abbrev zz8_r19:List AI:=[
 aM 79 11,
 aI 80 (.call (.c (.fn f_zz28)) [(.t 8),(.t 79)] 0),
 aN 12 80]
abbrev zz8_r20:List AI:=[
 aM 81 12,
 aI 82 (.bin .neq (.t 81) (.c (.int .i64 0)))]
abbrev zz8_r21:List AI:=[
 aM 83 12,
 aN 4 83]
abbrev zz8_r22:List AI:=[
 aI 84 (.bin .add (.t 75) (.c (.int .i64 1))),
 aM 75 84]
abbrev zz8_l1:ACode:=.seq (.reg false zz8_r17) (.seq (.cond (.t 76) (.skip) (.exit 3)) (.seq (.block 4 (.seq (.reg false zz8_r18) (.seq (.reg false zz8_r19) (.seq (.reg false zz8_r20) (.cond (.t 82) (.seq (.reg false zz8_r21) (.ret)) (.skip)))))) (.reg false zz8_r22)))
abbrev zz8_r23:List AI:=[
 aI 85 (.faddr 0 (.t 8)),
 aI 86 (.faddr 0 (.t 85)),
 aI 87 (.load false 1 (.t 86) .foreign),
 aI 88 (.call (.c (.fn f_zz68)) [(.t 87)] 2),
 aI 89 (.bin .neq (.t 88) (.c (.int .i64 0))),
 aM 90 89,
 aF 91 90 (.faddr 0 (.t 8)),
 aF 92 90 (.load true 3 (.t 91) .foreign),
 aF 93 90 (.faddr 0 (.t 8)),
 aF 94 90 (.load true 3 (.t 93) .foreign),
 aF 95 90 (.faddr 5 (.t 8)),
 aF 96 90 (.load false 1 (.t 95) .foreign),
 aF 98 90 (.load true 64 (.t 9) (.site 9)),
 aF 97 90 (.call (.c (.fn f_zz32)) [(.t 94),(.t 96)] 1),
 aF 99 90 (.call (.c (.fn f_zz44)) [(.t 92),(.t 97),(.t 98)] 2),
 aF 100 90 (.bin .neq (.t 99) (.c (.int .i64 0))),
 aI 101 (.pick (.t 90) (.c (.bool true)) (.t 100)),
 aM 102 101,
 aF 103 102 (.faddr 0 (.t 8)),
 aF 104 102 (.faddr 0 (.t 103)),
 aF 105 102 (.load false 1 (.t 104) .foreign),
 aF 106 102 (.call (.c (.fn f_zz68)) [(.t 105)] 2),
 aF 107 102 (.bin .neq (.t 106) (.c (.int .i64 0))),
 aI 108 (.pick (.t 102) (.c (.bool true)) (.t 107))]
abbrev zz8_r24:List AI:=[
 aI 4 (.mv true (.c (.int .i64 12)))]
abbrev zz8_r25:List AI:=[
 aM 109 0,
 aI 110 (.load true 16 (.t 8) .any),
 aI 111 (.nilck (.t 109)),
 aS (.store 16 (.t 111) (.t 110) .any)]
abbrev zz8_r26:List AI:=[
 aI 4 (.mv true (.c (.int .i64 0)))]
abbrev zz8_c:ACode:=.seq (.reg false zz8_r0) (.seq (.reg false zz8_r1) (.seq (.seq (.reg false zz8_r2) (.block 0 (.loop zz8_l0))) (.seq (.block 2 (.seq (.reg false zz8_r9) (.cond (.t 28) (.seq (.reg false zz8_r10) (.ret)) (zz8_b0)))) (.seq (.reg true zz8_r13) (.seq (.reg false zz8_r14) (.seq (.reg false zz8_r15) (.seq (.seq (.reg false zz8_r16) (.block 3 (.loop zz8_l1))) (.seq (.seq (.reg true zz8_r23) (.cond (.t 108) (.seq (.reg false zz8_r24) (.ret)) (.skip))) (.seq (.reg false zz8_r25) (.seq (.reg false zz8_r26) (.ret)))))))))))
def zz8_F:AFunc:=⟨112,[.tmp 4],zz8_c⟩
theorem zz8_cp:ze Tryz.prog [8,88,99,106] f_zz8=some zz8_F:=by kernel_rfl
abbrev zz7_r0:List AI:=[
 aI 2 (.mv true (.c .nilS))]
abbrev zz7_r1:List AI:=[
 aM 3 0,
 aI 4 (.nilck (.t 3)),
 aI 5 (.faddr 15 (.t 4)),
 aI 6 (.load false 1 (.t 5) .any),
 aI 7 (.call (.c (.fn f_zz3)) [(.t 6)] 0),
 aN 2 7]
abbrev zz7_c:ACode:=.seq (.reg false zz7_r0) (.seq (.reg false zz7_r1) (.ret))
def zz7_F:AFunc:=⟨8,[.tmp 2],zz7_c⟩
theorem zz7_cp:ze Tryz.prog [] f_zz7=some zz7_F:=by kernel_rfl
abbrev zz22_r0:List AI:=[
 aI 2 (.box 64 (.t 0)),
 aI 4 (.mv true (.c (.bool false)))]
abbrev zz22_r1:List AI:=[
 aI 6 (.load true 64 (.t 2) .any),
 aI 7 (.call (.c (.fn f_zz50)) [(.t 6),(.c (.int .i64 0)),(.c (.int .i64 48))] 0),
 aM 8 1,
 aI 9 (.call (.c (.fn f_zz5)) [(.t 7),(.t 8)] 0),
 aI 5 (.alloc (zr 16 (.int .u8 0))),
 aS (.store 16 (.t 5) (.t 9) .any)]
abbrev zz22_r2:List AI:=[
 aI 10 (.load true 64 (.t 2) (.site 2)),
 aI 11 (.call (.c (.fn f_zz50)) [(.t 10),(.c (.int .i64 0)),(.c (.int .i64 8))] 2),
 aI 12 (.call (.c (.fn f_zz42)) [] 2),
 aI 13 (.bin .eql (.t 11) (.t 12)),
 aM 14 13,
 aT 15 14 (.load true 64 (.t 2) (.site 2)),
 aT 17 14 (.load true 16 (.t 5) (.site 5)),
 aT 16 14 (.call (.c (.fn f_zz50)) [(.t 15),(.c (.int .i64 48)),(.c (.int .i64 64))] 2),
 aT 18 14 (.call (.c (.fn f_zz47)) [(.t 17)] 2),
 aT 19 14 (.bin .eql (.t 16) (.t 18)),
 aI 20 (.pick (.t 14) (.t 19) (.c (.bool false))),
 aN 4 20]
abbrev zz22_c:ACode:=.seq (.reg false zz22_r0) (.seq (.reg false zz22_r1) (.seq (.reg true zz22_r2) (.ret)))
def zz22_F:AFunc:=⟨21,[.tmp 4],zz22_c⟩
theorem zz22_cp:ze Tryz.prog [] f_zz22=some zz22_F:=by kernel_rfl
abbrev zz14_r0:List AI:=[
 aI 3 (.box 64 (.t 0)),
 aI 6 (.mv true (.c (.bool false)))]
abbrev zz14_r1:List AI:=[
 aI 8 (.load true 64 (.t 3) (.site 3)),
 aI 10 (.load true 64 (.t 3) (.site 3)),
 aM 13 1,
 aM 14 2,
 aI 7 (.alloc (zr 16 (.int .u8 0))),
 aI 9 (.call (.c (.fn f_zz50)) [(.t 8),(.c (.int .i64 0)),(.c (.int .i64 16))] 2),
 aI 11 (.call (.c (.fn f_zz50)) [(.t 10),(.c (.int .i64 24)),(.c (.int .i64 56))] 2),
 aI 12 (.bin .add (.t 9) (.t 11)),
 aI 15 (.call (.c (.fn f_zz1)) [(.t 12),(.t 13),(.t 14)] 2),
 aS (.store 16 (.t 7) (.t 15) (.site 7))]
abbrev zz14_r2:List AI:=[
 aI 16 (.load true 64 (.t 3) (.site 3)),
 aI 18 (.load true 16 (.t 7) (.site 7)),
 aI 17 (.call (.c (.fn f_zz56)) [(.t 16)] 2),
 aI 19 (.call (.c (.fn f_zz47)) [(.t 18)] 2),
 aI 20 (.bin .eql (.t 17) (.t 19)),
 aN 6 20]
abbrev zz14_c:ACode:=.seq (.reg false zz14_r0) (.seq (.reg true zz14_r1) (.seq (.reg true zz14_r2) (.ret)))
def zz14_F:AFunc:=⟨21,[.tmp 6],zz14_c⟩
theorem zz14_cp:ze Tryz.prog [] f_zz14=some zz14_F:=by kernel_rfl
-- loop 0: [0, 1, 5]
abbrev zz49_r0:List AI:=[
 aI 4 (.mv true (.c (.bool false)))]
abbrev zz49_r1:List AI:=[
 aM 6 0,
 aI 7 (.len false (.t 6)),
 aM 8 1,
 aI 9 (.len false (.t 8)),
 aI 10 (.bin .neq (.t 7) (.t 9))]
abbrev zz49_r2:List AI:=[
 aI 4 (.mv true (.c (.bool false)))]
abbrev zz49_r3:List AI:=[
 aI 5 (.mv true (.c (.int .i64 0)))]
abbrev zz49_r4:List AI:=[
 aM 11 5,
 aM 12 0,
 aI 13 (.len false (.t 12)),
 aI 14 (.bin .lss (.t 11) (.t 13))]
abbrev zz49_r5:List AI:=[
 aM 17 0,
 aM 18 5,
 aI 19 (.iaddr 1 (.t 17) (.t 18)),
 aI 20 (.load false 1 (.t 19) .foreign),
 aM 21 1,
 aM 22 5,
 aI 23 (.iaddr 1 (.t 21) (.t 22)),
 aI 24 (.load false 1 (.t 23) .foreign),
 aI 25 (.bin .neq (.t 20) (.t 24))]
abbrev zz49_r6:List AI:=[
 aI 4 (.mv true (.c (.bool false)))]
abbrev zz49_r7:List AI:=[
 aM 15 5,
 aI 16 (.bin .add (.t 15) (.c (.int .i64 1))),
 aN 5 16]
abbrev zz49_l0:ACode:=.seq (.seq (.reg false zz49_r4) (.cond (.t 14) (.skip) (.exit 0))) (.seq (.block 1 (.seq (.reg true zz49_r5) (.cond (.t 25) (.seq (.reg false zz49_r6) (.ret)) (.skip)))) (.reg false zz49_r7))
abbrev zz49_r8:List AI:=[
 aI 4 (.mv true (.c (.bool true)))]
abbrev zz49_c:ACode:=.seq (.reg false zz49_r0) (.seq (.seq (.reg false zz49_r1) (.cond (.t 10) (.seq (.reg false zz49_r2) (.ret)) (.skip))) (.seq (.seq (.reg false zz49_r3) (.block 0 (.loop zz49_l0))) (.seq (.reg false zz49_r8) (.ret))))
def zz49_F:AFunc:=⟨26,[.tmp 4],zz49_c⟩
theorem zz49_cp:ze Tryz.prog [] f_zz49=some zz49_F:=by kernel_rfl
abbrev zz80_r0:List AI:=[
 aI 6 (.alloc [.nilP,(.int .i64 0),(.int .i64 0)]),
 aI 7 (.mv true (.c (.int .i64 0)))]
abbrev zz80_r1:List AI:=[
 aM 9 2,
 aI 10 (.bin .lss (.t 9) (.c (.int .i64 8))),
 aN 8 10]
abbrev zz80_r2:List AI:=[
 aM 11 1,
 aI 12 (.bin .lss (.t 11) (.c (.int .i64 0))),
 aN 8 12]
abbrev zz80_r3:List AI:=[
 aM 13 1,
 aM 14 0,
 aI 15 (.call (.c (.fn f_zz67)) [(.t 14)] 0),
 aI 16 (.bin .gtr (.t 13) (.t 15)),
 aN 8 16]
abbrev zz80_r4:List AI:=[
 aM 17 2,
 aM 18 0,
 aI 19 (.call (.c (.fn f_zz67)) [(.t 18)] 0),
 aM 20 1,
 aI 21 (.bin .sub (.t 19) (.t 20)),
 aI 22 (.bin .gtr (.t 17) (.t 21)),
 aN 8 22]
abbrev zz80_b0:ACode:=.seq (.reg false zz80_r3) (.cond (.t 8) (.skip) (.reg false zz80_r4))
abbrev zz80_b1:ACode:=.seq (.reg false zz80_r2) (.cond (.t 8) (.skip) (zz80_b0))
abbrev zz80_r5:List AI:=[
 aI 23 (.build [.nilP,(.int .i64 0),(.int .i64 0)] []),
 aS (.store 3 (.t 6) (.t 23) .any),
 aI 7 (.mv true (.c (.int .i64 1)))]
abbrev zz80_r6:List AI:=[
 aM 25 0,
 aI 26 (.call (.c (.fn f_zz64)) [(.t 25)] 0),
 aN 24 26]
abbrev zz80_r7:List AI:=[
 aI 27 (.build [.nilP,(.int .i64 0),(.int .i64 0)] []),
 aS (.store 3 (.t 6) (.t 27) .any),
 aI 7 (.mv true (.c (.int .i64 12)))]
abbrev zz80_b2:ACode:=.seq (.reg false zz80_r6) (.cond (.t 24) (.seq (.reg false zz80_r7) (.ret)) (.skip))
abbrev zz80_r8:List AI:=[
 aM 28 0,
 aM 29 1,
 aM 30 2,
 aI 31 (.bin .quo (.t 30) (.c (.int .i64 2))),
 aI 32 (.build [.nilP,(.int .i64 0),(.int .i64 0)] [(0,1,(.t 28)),(1,1,(.t 29)),(2,1,(.t 31))]),
 aS (.store 3 (.t 6) (.t 32) .any),
 aI 7 (.mv true (.c (.int .i64 0)))]
abbrev zz80_c:ACode:=.seq (.reg false zz80_r0) (.seq (.block 0 (.seq (.seq (.reg false zz80_r1) (.cond (.t 8) (.skip) (zz80_b1))) (.cond (.t 8) (.seq (.reg false zz80_r5) (.ret)) (zz80_b2)))) (.seq (.reg false zz80_r8) (.ret)))
def zz80_F:AFunc:=⟨33,[.cell 6 true 3,.tmp 7],zz80_c⟩
theorem zz80_cp:ze Tryz.prog [] f_zz80=some zz80_F:=by kernel_rfl
-- loop 0: [2, 3, 4, 5, 19]
-- loop 1: [4, 55]
-- loop 2: [1, 2, 3, 4, 5, 10, 44, 45]
-- loop 3: [1, 2, 3, 4, 10]
abbrev zz21_r0:List AI:=[
 aI 1 (.box 3 (.t 0)),
 aI 2 (.gn (.alloc [(.int .i64 0),(.int .i64 0),(.int .i64 0),(.int .i64 0)]) []),
 aI 3 (.gn (.alloc [(.bool false),(.bool false)]) []),
 aI 4 (.gn (.alloc [(.int .i64 0)]) [])]
abbrev zz21_r1:List AI:=[
 aI 10 (.mv false (.c (.int .i64 0)))]
abbrev zz21_r2:List AI:=[
 aI 11 (.bin .lss (.t 10) (.c (.int .i64 2)))]
abbrev zz21_r3:List AI:=[
 aM 12 10,
 aI 5 (.gn (.alloc [(.int .i64 0)]) []),
 aS (.store 1 (.t 5) (.t 12) .any)]
abbrev zz21_r4:List AI:=[
 aI 13 (.load true 3 (.t 1) (.site 1)),
 aI 14 (.load true 3 (.t 1) (.site 1)),
 aI 15 (.load false 1 (.t 5) .foreign),
 aI 17 (.gd (.clo f_zz12) [(.t 5)]),
 aI 16 (.call (.c (.fn f_zz32)) [(.t 14),(.t 15)] 1),
 aI 18 (.call (.c (.fn f_zz31)) [(.t 13),(.t 16),(.t 17)] 3)]
abbrev zz21_r5:List AI:=[
 aI 6 (.alloc (zr 64 (.int .u8 0))),
 aS (.store 64 (.t 6) (.t 19) .any)]
abbrev zz21_r6:List AI:=[
 aI 20 (.load true 64 (.t 6) .any),
 aI 21 (.call (.c (.fn f_zz52)) [(.t 20)] 0),
 aI 7 (.alloc [(.int .i64 0),(.int .i64 0)]),
 aS (.store 2 (.t 7) (.t 21) .any)]
abbrev zz21_r7:List AI:=[
 aI 22 (.load false 1 (.t 4) .any),
 aI 23 (.faddr 1 (.t 7)),
 aI 24 (.load false 1 (.t 23) .any),
 aI 25 (.mx (.t 22) (.t 24)),
 aS (.store 1 (.t 4) (.t 25) .any)]
abbrev zz21_r8:List AI:=[
 aI 26 (.load false 1 (.t 5) .foreign),
 aI 27 (.iaddrA 2 1 (.t 3) (.t 26)),
 aI 28 (.load false 1 (.t 27) .foreign),
 aI 29 (.not (.t 28)),
 aM 30 29,
 aF 31 30 (.load true 2 (.t 7) (.site 7)),
 aF 32 30 (.load false 1 (.t 5) .foreign),
 aF 33 30 (.iaddrA 2 2 (.t 2) (.t 32)),
 aF 34 30 (.load true 2 (.t 33) .foreign),
 aF 35 30 (.call (.c (.fn f_zz25)) [(.t 31),(.t 34)] 1),
 aF 36 30 (.bin .gtr (.t 35) (.c (.int .i64 0))),
 aI 37 (.pick (.t 30) (.c (.bool true)) (.t 36))]
abbrev zz21_r9:List AI:=[
 aI 38 (.load false 1 (.t 5) .foreign),
 aI 39 (.load false 1 (.t 5) .foreign),
 aI 40 (.load true 2 (.t 7) (.site 7)),
 aI 41 (.iaddrA 2 2 (.t 2) (.t 38)),
 aS (.kp [(.ld false 1 (.t 5))] (.store 2 (.t 41) (.t 40) .gp)),
 aI 42 (.iaddrA 2 1 (.t 3) (.t 39)),
 aS (.store 1 (.t 42) (.c (.bool true)) .gp)]
abbrev zaq:ACode:=.reg false zz21_r5
abbrev journal_part_greatest_y0b:ACode:=.block 3 (.seq (.reg false zz21_r6) (.seq (.reg false zz21_r7) (.seq (.reg true zz21_r8) (.cond (.t 37) (.reg true zz21_r9) (.skip)))))
abbrev zz21_r10:List AI:=[
 aI 43 (.load true 3 (.t 1) .any),
 aI 44 (.call (.c (.fn f_zz37)) [(.t 43)] 0),
 aI 45 (.mv false (.c (.int .i64 0)))]
abbrev zz21_r11:List AI:=[
 aI 46 (.bin .lss (.t 45) (.t 44))]
abbrev zz21_r12:List AI:=[
 aM 47 45,
 aI 8 (.gn (.alloc [(.int .i64 0)]) []),
 aS (.store 1 (.t 8) (.t 47) .any)]
abbrev zz21_r13:List AI:=[
 aI 48 (.load true 3 (.t 1) (.site 1)),
 aI 49 (.load true 3 (.t 1) (.site 1)),
 aI 50 (.load false 1 (.t 5) .foreign),
 aI 51 (.load false 1 (.t 8) .foreign),
 aI 53 (.gd (.clo f_zz13) [(.t 5),(.t 8)]),
 aI 52 (.call (.c (.fn f_zz45)) [(.t 49),(.t 50),(.t 51)] 1),
 aI 54 (.call (.c (.fn f_zz31)) [(.t 48),(.t 52),(.t 53)] 3)]
abbrev zz21_r14:List AI:=[
 aI 9 (.alloc (zr 64 (.int .u8 0))),
 aS (.store 64 (.t 9) (.t 55) .any)]
abbrev zz21_r15:List AI:=[
 aI 56 (.load false 1 (.t 4) .foreign),
 aI 57 (.load true 64 (.t 9) (.site 9)),
 aI 58 (.call (.c (.fn f_zz26)) [(.t 57)] 1),
 aI 59 (.field false 1 1 (.t 58)),
 aI 60 (.mx (.t 56) (.t 59)),
 aS (.store 1 (.t 4) (.t 60) .gp)]
abbrev zbb:ACode:=.reg false zz21_r14
abbrev journal_part_greatest_y1b:ACode:=.block 7 (.reg true zz21_r15)
abbrev zz21_r16:List AI:=[
 aI 61 (.bin .add (.t 45) (.c (.int .i64 1))),
 aM 45 61]
abbrev zz21_l2:ACode:=.seq (.reg false zz21_r11) (.seq (.cond (.t 46) (.skip) (.exit 4)) (.seq (.block 5 (.seq (.reg false zz21_r12) (.seq (.reg true zz21_r13) (.block 6 (.rangeF (.t 54) [55] zbb journal_part_greatest_y1b))))) (.reg false zz21_r16)))
abbrev zz21_r17:List AI:=[
 aI 62 (.bin .add (.t 10) (.c (.int .i64 1))),
 aM 10 62]
abbrev zz21_l3:ACode:=.seq (.reg false zz21_r2) (.seq (.cond (.t 11) (.skip) (.exit 0)) (.seq (.block 1 (.seq (.reg false zz21_r3) (.seq (.seq (.reg true zz21_r4) (.block 2 (.rangeF (.t 18) [19] zaq journal_part_greatest_y0b))) (.seq (.reg false zz21_r10) (.block 4 (.loop zz21_l2)))))) (.reg false zz21_r17)))
abbrev zz21_r18:List AI:=[
 aI 63 (.load true 4 (.t 2) .foreign),
 aI 64 (.load true 2 (.t 3) .foreign),
 aI 65 (.load false 1 (.t 4) .foreign),
 aI 66 (.bin .add (.t 65) (.c (.int .i64 1))),
 aS (.kp [(.ld true 2 (.t 3)),(.ld false 1 (.t 4))] (.store 4 (.t 2) (.t 63) .gp)),
 aS (.kp [(.ld false 1 (.t 4))] (.store 2 (.t 3) (.t 64) .gp)),
 aS (.store 1 (.t 4) (.t 66) .gp)]
abbrev zz21_c:ACode:=.seq (.reg false zz21_r0) (.seq (.seq (.reg false zz21_r1) (.block 0 (.loop zz21_l3))) (.seq (.reg true zz21_r18) (.ret)))
def zz21_F:AFunc:=⟨67,[.cell 2 true 4,.cell 3 true 2,.cell 4 false 1],zz21_c⟩
theorem zz21_cp:ze Tryz.prog [2,3,4,5,8,17,53] f_zz21=some zz21_F:=by kernel_rfl
abbrev zz73_r0:List AI:=[
 aI 1 (.gn (.box 64) [(.t 0)]),
 aI 2 (.alloc (zr 8 (.int .u8 0)))]
abbrev zz73_r1:List AI:=[
 aI 3 (.gd (.arrS 1 64 true true false) [(.t 1),(.c (.int .i64 48)),(.c (.int .i64 56))]),
 aI 4 (.gd (.s2a 8) [(.t 3)]),
 aI 5 (.load true 8 (.t 4) .any),
 aS (.store 8 (.t 2) (.t 5) .any)]
abbrev zz73_c:ACode:=.seq (.reg false zz73_r0) (.seq (.reg false zz73_r1) (.ret))
def zz73_F:AFunc:=⟨6,[.cell 2 true 8],zz73_c⟩
theorem zz73_cp:ze Tryz.prog [1] f_zz73=some zz73_F:=by kernel_rfl
abbrev zz29_r0:List AI:=[
 aI 2 (.box 2 (.t 0)),
 aI 4 (.alloc (zr 64 (.int .u8 0)))]
abbrev zz29_r1:List AI:=[
 aI 5 (.gn (.alloc (zr 64 (.int .u8 0))) [])]
abbrev zz29_r2:List AI:=[
 aI 6 (.gd (.arrS 1 64 false false false) [(.t 5)]),
 aI 7 (.gd .copyS [(.t 6),(.c (.str [81,85,73,69,84,74,78,76]))])]
abbrev zz29_r3:List AI:=[
 aI 8 (.gd (.arrS 1 64 true false false) [(.t 5),(.c (.int .i64 8))]),
 aI 9 (.faddr 0 (.t 2)),
 aI 10 (.load false 1 (.t 9) (.site 2)),
 aI 11 (.call (.c (.fn f_zz82)) [(.t 8),(.t 10)] 2)]
abbrev zz29_r4:List AI:=[
 aI 12 (.gd (.arrS 1 64 true false false) [(.t 5),(.c (.int .i64 12))]),
 aI 13 (.faddr 1 (.t 2)),
 aI 14 (.load false 1 (.t 13) (.site 2)),
 aI 15 (.call (.c (.fn f_zz82)) [(.t 12),(.t 14)] 2)]
abbrev zz29_r5:List AI:=[
 aM 16 1,
 aI 17 (.mkslice 1 1 (.int .i64 0) [(0,(.t 16))]),
 aI 18 (.call (.c (.fn f_zz83)) [(.t 5),(.c (.int .i64 129)),(.t 17)] 0)]
abbrev zz29_r6:List AI:=[
 aI 19 (.load true 64 (.t 5) .any),
 aS (.store 64 (.t 4) (.t 19) .any)]
abbrev zz29_c:ACode:=.seq (.reg false zz29_r0) (.seq (.reg false zz29_r1) (.seq (.reg false zz29_r2) (.seq (.reg true zz29_r3) (.seq (.reg true zz29_r4) (.seq (.reg false zz29_r5) (.seq (.reg false zz29_r6) (.ret)))))))
def zz29_F:AFunc:=⟨20,[.cell 4 true 64],zz29_c⟩
theorem zz29_cp:ze Tryz.prog [5] f_zz29=some zz29_F:=by kernel_rfl
-- loop 0: [1, 2, 3, 4, 13, 14]
abbrev zz24_r0:List AI:=[
 aI 1 (.gn (.box 1) [(.t 0)])]
abbrev zz24_r1:List AI:=[
 aI 2 (.gn (.alloc [(.str [])]) []),
 aI 3 (.gn (.alloc [(.int .i64 0)]) []),
 aS (.store 1 (.t 2) (.c (.str [])) .any),
 aS (.store 1 (.t 3) (.c (.int .i64 0)) .any)]
abbrev zz24_r2:List AI:=[
 aI 7 (.load false 1 (.t 1) .any),
 aI 8 (.nilck (.t 7)),
 aI 9 (.faddr 7 (.t 8)),
 aI 10 (.load true 8 (.t 9) .any),
 aI 4 (.gn (.alloc (zr 8 (.int .u8 0))) []),
 aS (.store 8 (.t 4) (.t 10) .any)]
abbrev zz24_r3:List AI:=[
 aI 11 (.load false 1 (.t 1) .any),
 aI 12 (.call (.c (.fn f_zz18)) [(.t 11)] 0)]
abbrev zz24_r4:List AI:=[
 aI 5 (.alloc ([(.int .i64 0),(.int .i64 0)]++zr 40 (.int .u8 0))),
 aS (.store 42 (.t 5) (.t 13) .any)]
abbrev zz24_r5:List AI:=[
 aI 6 (.alloc (zr 8 (.int .u8 0))),
 aS (.store 8 (.t 6) (.t 14) .any)]
abbrev zz24_r6:List AI:=[
 aI 15 (.load true 42 (.t 5) .any),
 aI 16 (.call (.c (.fn f_zz10)) [(.t 15)] 0)]
abbrev zz24_r7:List AI:=[
 aS (.store 1 (.t 2) (.c (.str [])) .any)]
abbrev zz24_r8:List AI:=[
 aI 17 (.load false 1 (.t 2) .foreign),
 aI 18 (.load true 42 (.t 5) (.site 5)),
 aI 19 (.call (.c (.fn f_zz6)) [(.t 18)] 1),
 aI 20 (.bin .add (.t 17) (.t 19)),
 aS (.store 1 (.t 2) (.t 20) .gp)]
abbrev zz24_r9:List AI:=[
 aI 21 (.load false 1 (.t 3) .any),
 aI 22 (.bin .add (.t 21) (.c (.int .i64 1))),
 aS (.store 1 (.t 3) (.t 22) .any)]
abbrev zz24_r10:List AI:=[
 aI 23 (.load true 42 (.t 5) .any),
 aI 24 (.call (.c (.fn f_zz19)) [(.t 23)] 0)]
abbrev zz24_r11:List AI:=[
 aI 25 (.load false 1 (.t 1) .foreign),
 aI 26 (.load false 1 (.t 1) .foreign),
 aI 27 (.load false 1 (.t 1) .foreign),
 aI 28 (.nilck (.t 27)),
 aI 29 (.faddr 15 (.t 28)),
 aI 30 (.load false 1 (.t 29) .foreign),
 aI 31 (.load false 1 (.t 2) .foreign),
 aI 32 (.mkslice 1 1 (.str []) [(0,(.t 31))]),
 aI 34 (.load false 1 (.t 3) .foreign),
 aI 35 (.load true 8 (.t 6) (.site 6)),
 aI 33 (.kp [(.ld false 1 (.t 1)),(.ld false 1 (.t 1)),(.ld false 1 (.t 3))] (.appG 1 16 [(.str [])] (.t 30) (.t 32))),
 aI 36 (.nilck (.t 25)),
 aI 37 (.faddr 15 (.t 36)),
 aS (.kp [(.ld false 1 (.t 1)),(.ld false 1 (.t 3))] (.store 1 (.t 37) (.t 33) .gp)),
 aI 38 (.nilck (.t 26)),
 aI 39 (.faddr 6 (.t 38)),
 aS (.store 1 (.t 39) (.t 34) .gp),
 aS (.store 8 (.t 4) (.t 35) .gp)]
abbrev zbh:ACode:=.seq (.reg false zz24_r4) (.reg false zz24_r5)
abbrev journal_Journal_scan_y0b:ACode:=.block 1 (.seq (.seq (.reg false zz24_r6) (.cond (.t 16) (.reg false zz24_r7) (.skip))) (.seq (.reg true zz24_r8) (.seq (.reg false zz24_r9) (.seq (.reg false zz24_r10) (.cond (.t 24) (.reg true zz24_r11) (.skip))))))
abbrev zz24_r12:List AI:=[
 aI 40 (.load false 1 (.t 1) .any),
 aI 41 (.load true 8 (.t 4) .any),
 aI 42 (.nilck (.t 40)),
 aI 43 (.faddr 7 (.t 42)),
 aS (.store 8 (.t 43) (.t 41) .any)]
abbrev zz24_c:ACode:=.seq (.reg false zz24_r0) (.seq (.reg false zz24_r1) (.seq (.reg false zz24_r2) (.seq (.seq (.reg false zz24_r3) (.block 0 (.rangeF (.t 12) [13,14] zbh journal_Journal_scan_y0b))) (.reg false zz24_r12))))
def zz24_F:AFunc:=⟨44,[],zz24_c⟩
theorem zz24_cp:ze Tryz.prog [1,2,3,4,33] f_zz24=some zz24_F:=by kernel_rfl
-- loop 0: [2, 3, 7, 8]
abbrev zz50_r0:List AI:=[
 aI 3 (.box 64 (.t 0)),
 aI 6 (.mv true (.c (.str [])))]
abbrev zz50_r1:List AI:=[
 aI 7 (.mv true (.c .nilS))]
abbrev zz50_r2:List AI:=[
 aM 9 1,
 aN 8 9]
abbrev zz50_r3:List AI:=[
 aM 10 8,
 aM 11 2,
 aI 12 (.bin .lss (.t 10) (.t 11))]
abbrev zz50_r4:List AI:=[
 aN 15 7,
 aM 16 8,
 aI 17 (.iaddrA 64 1 (.t 3) (.t 16)),
 aI 18 (.load false 1 (.t 17) .any),
 aI 19 (.mkslice 1 1 (.int .u8 0) [(0,(.t 18))]),
 aI 20 (.append 1 1 (.t 15) (.t 19)),
 aN 7 20]
abbrev zz50_r5:List AI:=[
 aM 13 8,
 aI 14 (.bin .add (.t 13) (.c (.int .i64 1))),
 aN 8 14]
abbrev zz50_l0:ACode:=.seq (.seq (.reg false zz50_r3) (.cond (.t 12) (.skip) (.exit 0))) (.seq (.block 1 (.reg false zz50_r4)) (.reg false zz50_r5))
abbrev zz50_r6:List AI:=[
 aM 21 7,
 aI 22 (.b2s (.t 21)),
 aN 6 22]
abbrev zz50_c:ACode:=.seq (.reg false zz50_r0) (.seq (.reg false zz50_r1) (.seq (.seq (.reg false zz50_r2) (.block 0 (.loop zz50_l0))) (.seq (.reg false zz50_r6) (.ret))))
def zz50_F:AFunc:=⟨23,[.tmp 6],zz50_c⟩
theorem zz50_cp:ze Tryz.prog [] f_zz50=some zz50_F:=by kernel_rfl
-- loop 0: [1, 5, 7, 13]
abbrev zz44_r0:List AI:=[
 aI 3 (.box 3 (.t 0)),
 aI 5 (.box 64 (.t 2)),
 aI 6 (.mv true (.c (.int .i64 0)))]
abbrev zz44_r1:List AI:=[
 aI 10 (.faddr 0 (.t 3)),
 aI 11 (.load false 1 (.t 10) .any),
 aI 12 (.gd (.bnd f_zz59) [(.t 11)]),
 aN 7 12]
abbrev zz44_r2:List AI:=[
 aI 13 (.mv false (.c (.int .i64 0)))]
abbrev zz44_r3:List AI:=[
 aI 14 (.bin .lss (.t 13) (.c (.int .i64 2)))]
abbrev zz44_r4:List AI:=[
 aM 15 13,
 aN 8 15]
abbrev zz44_r5:List AI:=[
 aM 16 7,
 aM 17 1,
 aM 18 8,
 aI 19 (.bin .add (.t 17) (.t 18)),
 aI 20 (.load true 64 (.t 5) .any),
 aI 21 (.call (.t 16) [(.t 19),(.t 20)] 0),
 aN 9 21]
abbrev zz44_r6:List AI:=[
 aM 22 9,
 aI 23 (.bin .neq (.t 22) (.c (.int .i64 0)))]
abbrev zz44_r7:List AI:=[
 aM 24 9,
 aN 6 24]
abbrev zz44_r8:List AI:=[
 aI 25 (.bin .add (.t 13) (.c (.int .i64 1))),
 aM 13 25]
abbrev zz44_l0:ACode:=.seq (.reg false zz44_r3) (.seq (.cond (.t 14) (.skip) (.exit 0)) (.seq (.block 1 (.seq (.reg false zz44_r4) (.seq (.reg false zz44_r5) (.seq (.reg false zz44_r6) (.cond (.t 23) (.seq (.reg false zz44_r7) (.ret)) (.skip)))))) (.reg false zz44_r8)))
abbrev zz44_r9:List AI:=[
 aI 6 (.mv true (.c (.int .i64 0)))]
abbrev zz44_c:ACode:=.seq (.reg false zz44_r0) (.seq (.reg false zz44_r1) (.seq (.seq (.reg false zz44_r2) (.block 0 (.loop zz44_l0))) (.seq (.reg false zz44_r9) (.ret))))
def zz44_F:AFunc:=⟨26,[.tmp 6],zz44_c⟩
theorem zz44_cp:ze Tryz.prog [12] f_zz44=some zz44_F:=by kernel_rfl
abbrev zz32_r0:List AI:=[
 aI 2 (.box 3 (.t 0)),
 aI 4 (.mv true (.c (.int .i64 0)))]
abbrev zz32_r1:List AI:=[
 aI 5 (.faddr 1 (.t 2)),
 aI 6 (.load false 1 (.t 5) .any),
 aM 7 1,
 aI 8 (.faddr 2 (.t 2)),
 aI 9 (.load false 1 (.t 8) .any),
 aI 10 (.bin .mul (.t 7) (.t 9)),
 aI 11 (.bin .add (.t 6) (.t 10)),
 aN 4 11]
abbrev zz32_c:ACode:=.seq (.reg false zz32_r0) (.seq (.reg false zz32_r1) (.ret))
def zz32_F:AFunc:=⟨12,[.tmp 4],zz32_c⟩
theorem zz32_cp:ze Tryz.prog [] f_zz32=some zz32_F:=by kernel_rfl
abbrev zz23_r0:List AI:=[
 aI 2 (.mv true (.c (.int .i64 0)))]
abbrev zz23_r1:List AI:=[
 aM 3 0,
 aI 4 (.nilck (.t 3)),
 aI 5 (.faddr 0 (.t 4)),
 aI 6 (.load true 3 (.t 5) .foreign),
 aM 8 0,
 aI 9 (.nilck (.t 8)),
 aI 10 (.faddr 6 (.t 9)),
 aI 11 (.load false 1 (.t 10) .foreign),
 aI 7 (.call (.c (.fn f_zz37)) [(.t 6)] 1),
 aI 12 (.bin .sub (.t 7) (.t 11)),
 aN 2 12]
abbrev zz23_c:ACode:=.seq (.reg false zz23_r0) (.seq (.reg true zz23_r1) (.ret))
def zz23_F:AFunc:=⟨13,[.tmp 2],zz23_c⟩
theorem zz23_cp:ze Tryz.prog [] f_zz23=some zz23_F:=by kernel_rfl
abbrev zz46_r0:List AI:=[
 aI 2 (.mv true (.c (.str [])))]
abbrev zz46_r1:List AI:=[
 aM 3 0,
 aI 4 (.gn (.mkSl 1 1 [(.int .u8 0)]) [(.t 3),(.t 3)]),
 aI 5 (.gd .b2s [(.t 4)]),
 aN 2 5]
abbrev zz46_c:ACode:=.seq (.reg false zz46_r0) (.seq (.reg false zz46_r1) (.ret))
def zz46_F:AFunc:=⟨6,[.tmp 2],zz46_c⟩
theorem zz46_cp:ze Tryz.prog [5] f_zz46=some zz46_F:=by kernel_rfl
abbrev zz2_r0:List AI:=[
 aI 2 (.mv true (.c (.int .i64 0)))]
abbrev zz2_r1:List AI:=[
 aM 3 0,
 aI 4 (.nilck (.t 3)),
 aI 5 (.faddr 3 (.t 4)),
 aI 6 (.faddr 0 (.t 5)),
 aI 7 (.load false 1 (.t 6) .any),
 aN 2 7]
abbrev zz2_c:ACode:=.seq (.reg false zz2_r0) (.seq (.reg false zz2_r1) (.ret))
def zz2_F:AFunc:=⟨8,[.tmp 2],zz2_c⟩
theorem zz2_cp:ze Tryz.prog [] f_zz2=some zz2_F:=by kernel_rfl
-- loop 0: [0, 3]
abbrev zz84_r0:List AI:=[
 aI 2 (.mv true (.c .nilS))]
abbrev zz84_r1:List AI:=[
 aI 3 (.mv true (.c .nilS))]
abbrev zz84_r2:List AI:=[
 aM 4 0,
 aI 5 (.len true (.t 4)),
 aI 6 (.bin .gtr (.t 5) (.c (.int .i64 30)))]
abbrev zz84_r3:List AI:=[
 aN 7 3,
 aM 8 0,
 aI 9 (.slS (.t 8) none (some (.c (.int .i64 30)))),
 aI 10 (.mkslice 1 1 (.str []) [(0,(.t 9))]),
 aI 11 (.append 1 16 (.t 7) (.t 10)),
 aN 3 11]
abbrev zz84_r4:List AI:=[
 aM 12 0,
 aI 13 (.slS (.t 12) (some (.c (.int .i64 30))) none),
 aN 0 13]
abbrev zz84_l0:ACode:=.seq (.seq (.reg false zz84_r2) (.cond (.t 6) (.skip) (.exit 0))) (.block 1 (.seq (.reg false zz84_r3) (.reg false zz84_r4)))
abbrev zz84_r5:List AI:=[
 aN 14 3,
 aM 15 0,
 aI 16 (.mkslice 1 1 (.str []) [(0,(.t 15))]),
 aI 17 (.append 1 16 (.t 14) (.t 16)),
 aN 2 17]
abbrev zz84_c:ACode:=.seq (.reg false zz84_r0) (.seq (.reg false zz84_r1) (.seq (.block 0 (.loop zz84_l0)) (.seq (.reg false zz84_r5) (.ret))))
def zz84_F:AFunc:=⟨18,[.tmp 2],zz84_c⟩
theorem zz84_cp:ze Tryz.prog [] f_zz84=some zz84_F:=by kernel_rfl
-- loop 0: [0, 1, 5, 13, 14, 15]
abbrev zz28_r0:List AI:=[
 aI 4 (.mv true (.c (.int .i64 0)))]
abbrev zz28_r1:List AI:=[
 aM 11 1,
 aI 12 (.call (.c (.fn f_zz84)) [(.t 11)] 0),
 aN 5 12]
abbrev zz28_r2:List AI:=[
 aM 13 5,
 aI 14 (.len false (.t 13)),
 aI 15 (.mv false (.c (.int .i64 0)))]
abbrev zz28_r3:List AI:=[
 aI 16 (.bin .lss (.t 15) (.t 14))]
abbrev zz28_r4:List AI:=[
 aM 17 15,
 aI 18 (.iaddr 1 (.t 13) (.t 15)),
 aI 19 (.load false 1 (.t 18) .any),
 aN 6 17,
 aN 7 19]
abbrev zz28_r5:List AI:=[
 aM 20 0,
 aI 21 (.nilck (.t 20)),
 aI 22 (.faddr 3 (.t 21)),
 aI 23 (.load true 2 (.t 22) .foreign),
 aM 24 0,
 aI 25 (.nilck (.t 24)),
 aI 26 (.faddr 7 (.t 25)),
 aI 27 (.load true 8 (.t 26) .foreign),
 aM 28 7,
 aM 29 6,
 aI 30 (.bin .eql (.t 29) (.c (.int .i64 0))),
 aM 31 6,
 aM 32 5,
 aI 33 (.len false (.t 32)),
 aI 34 (.bin .sub (.t 33) (.c (.int .i64 1))),
 aI 35 (.bin .eql (.t 31) (.t 34)),
 aI 8 (.alloc ([(.int .i64 0),(.int .i64 0)]++zr 40 (.int .u8 0))),
 aI 36 (.call (.c (.fn f_zz30)) [(.t 23),(.t 27),(.t 28),(.t 30),(.t 35)] 1),
 aS (.store 42 (.t 8) (.t 36) (.site 8))]
abbrev zz28_r6:List AI:=[
 aI 37 (.load true 42 (.t 8) (.site 8)),
 aM 38 0,
 aI 39 (.nilck (.t 38)),
 aI 40 (.faddr 5 (.t 39)),
 aI 41 (.load false 1 (.t 40) .foreign),
 aM 42 0,
 aI 43 (.nilck (.t 42)),
 aI 44 (.faddr 6 (.t 43)),
 aI 45 (.load false 1 (.t 44) .foreign),
 aI 9 (.alloc (zr 64 (.int .u8 0))),
 aI 46 (.call (.c (.fn f_zz11)) [(.t 37),(.t 41),(.t 45)] 1),
 aS (.store 64 (.t 9) (.t 46) (.site 9))]
abbrev zz28_r7:List AI:=[
 aM 47 0,
 aI 48 (.nilck (.t 47)),
 aI 49 (.faddr 0 (.t 48)),
 aI 50 (.load true 3 (.t 49) .foreign),
 aM 51 0,
 aI 52 (.nilck (.t 51)),
 aI 53 (.faddr 0 (.t 52)),
 aI 54 (.load true 3 (.t 53) .foreign),
 aM 55 0,
 aI 56 (.nilck (.t 55)),
 aI 57 (.faddr 5 (.t 56)),
 aI 58 (.load false 1 (.t 57) .foreign),
 aM 59 0,
 aI 60 (.nilck (.t 59)),
 aI 61 (.faddr 6 (.t 60)),
 aI 62 (.load false 1 (.t 61) .foreign),
 aI 64 (.load true 64 (.t 9) (.site 9)),
 aI 63 (.call (.c (.fn f_zz45)) [(.t 54),(.t 58),(.t 62)] 1),
 aI 65 (.call (.c (.fn f_zz44)) [(.t 50),(.t 63),(.t 64)] 2),
 aN 10 65]
abbrev zz28_r8:List AI:=[
 aM 66 10,
 aI 67 (.bin .neq (.t 66) (.c (.int .i64 0)))]
abbrev zz28_r9:List AI:=[
 aM 68 10,
 aN 4 68]
abbrev zz28_r10:List AI:=[
 aM 69 0,
 aI 70 (.load true 64 (.t 9) .any),
 aI 71 (.call (.c (.fn f_zz78)) [(.t 70)] 0),
 aI 72 (.nilck (.t 69)),
 aI 73 (.faddr 7 (.t 72)),
 aS (.store 8 (.t 73) (.t 71) .any)]
abbrev zz28_r11:List AI:=[
 aM 74 0,
 aI 75 (.nilck (.t 74)),
 aI 76 (.faddr 6 (.t 75)),
 aI 77 (.load false 1 (.t 76) .any),
 aI 78 (.bin .add (.t 77) (.c (.int .i64 1))),
 aI 79 (.nilck (.t 74)),
 aI 80 (.faddr 6 (.t 79)),
 aS (.store 1 (.t 80) (.t 78) .any)]
abbrev zz28_r12:List AI:=[
 aI 81 (.bin .add (.t 15) (.c (.int .i64 1))),
 aM 15 81]
abbrev zz28_l0:ACode:=.seq (.reg false zz28_r3) (.seq (.cond (.t 16) (.skip) (.exit 0)) (.seq (.block 1 (.seq (.reg false zz28_r4) (.seq (.reg true zz28_r5) (.seq (.reg true zz28_r6) (.seq (.seq (.reg true zz28_r7) (.seq (.reg false zz28_r8) (.cond (.t 67) (.seq (.reg false zz28_r9) (.ret)) (.skip)))) (.seq (.reg false zz28_r10) (.reg false zz28_r11))))))) (.reg false zz28_r12)))
abbrev zz28_r13:List AI:=[
 aM 82 0,
 aM 83 0,
 aI 84 (.nilck (.t 83)),
 aI 85 (.faddr 15 (.t 84)),
 aI 86 (.load false 1 (.t 85) .any),
 aM 87 1,
 aI 88 (.mkslice 1 1 (.str []) [(0,(.t 87))]),
 aI 89 (.appG 1 16 [(.str [])] (.t 86) (.t 88)),
 aI 90 (.nilck (.t 82)),
 aI 91 (.faddr 15 (.t 90)),
 aS (.store 1 (.t 91) (.t 89) .any)]
abbrev zz28_r14:List AI:=[
 aI 4 (.mv true (.c (.int .i64 0)))]
abbrev zz28_c:ACode:=.seq (.reg false zz28_r0) (.seq (.reg false zz28_r1) (.seq (.seq (.reg false zz28_r2) (.block 0 (.loop zz28_l0))) (.seq (.reg false zz28_r13) (.seq (.reg false zz28_r14) (.ret)))))
def zz28_F:AFunc:=⟨92,[.tmp 4],zz28_c⟩
theorem zz28_cp:ze Tryz.prog [65,89] f_zz28=some zz28_F:=by kernel_rfl
abbrev zz37_r0:List AI:=[
 aI 1 (.box 3 (.t 0)),
 aI 2 (.mv true (.c (.int .i64 0)))]
abbrev zz37_r1:List AI:=[
 aI 3 (.faddr 2 (.t 1)),
 aI 4 (.load false 1 (.t 3) .any),
 aI 5 (.bin .quo (.t 4) (.c (.int .i64 2))),
 aI 6 (.bin .sub (.t 5) (.c (.int .i64 1))),
 aN 2 6]
abbrev zz37_c:ACode:=.seq (.reg false zz37_r0) (.seq (.reg false zz37_r1) (.ret))
def zz37_F:AFunc:=⟨7,[.tmp 2],zz37_c⟩
theorem zz37_cp:ze Tryz.prog [] f_zz37=some zz37_F:=by kernel_rfl
abbrev zz3_r0:List AI:=[
 aI 2 (.mv true (.c .nilS))]
abbrev zz3_r1:List AI:=[
 aM 3 0,
 aI 4 (.isnil false (.t 3))]
abbrev zz3_r2:List AI:=[
 aI 2 (.mv true (.c .nilS))]
abbrev zz3_r3:List AI:=[
 aI 5 (.mkG 1 0 (.str []) []),
 aM 6 0,
 aI 7 (.appG 1 16 [(.str [])] (.t 5) (.t 6)),
 aN 2 7]
abbrev zz3_c:ACode:=.seq (.reg false zz3_r0) (.seq (.seq (.reg false zz3_r1) (.cond (.t 4) (.seq (.reg false zz3_r2) (.ret)) (.skip))) (.seq (.reg false zz3_r3) (.ret)))
def zz3_F:AFunc:=⟨8,[.tmp 2],zz3_c⟩
theorem zz3_cp:ze Tryz.prog [5,7] f_zz3=some zz3_F:=by kernel_rfl
abbrev zz5_r0:List AI:=[
 aI 4 (.alloc (zr 16 (.int .u8 0)))]
abbrev zz5_r1:List AI:=[
 aM 5 0,
 aM 6 1,
 aI 7 (.call (.c (.fn f_zz27)) [(.t 6)] 0),
 aI 8 (.mkslice 1 2 (.str []) [(0,(.t 5)),(1,(.t 7))]),
 aI 9 (.call (.c (.fn f_zz63)) [(.c (.int .i64 129)),(.t 8)] 0),
 aS (.store 16 (.t 4) (.t 9) .any)]
abbrev zz5_c:ACode:=.seq (.reg false zz5_r0) (.seq (.reg false zz5_r1) (.ret))
def zz5_F:AFunc:=⟨10,[.cell 4 true 16],zz5_c⟩
theorem zz5_cp:ze Tryz.prog [] f_zz5=some zz5_F:=by kernel_rfl
abbrev zz42_r0:List AI:=[
 aI 0 (.mv true (.c (.str [])))]
abbrev zz42_r1:List AI:=[
 aI 0 (.mv true (.c (.str [81,85,73,69,84,74,78,76])))]
abbrev zz42_c:ACode:=.seq (.reg false zz42_r0) (.seq (.reg false zz42_r1) (.ret))
def zz42_F:AFunc:=⟨1,[.tmp 0],zz42_c⟩
theorem zz42_cp:ze Tryz.prog [] f_zz42=some zz42_F:=by kernel_rfl
abbrev zz1_r0:List AI:=[
 aI 6 (.alloc (zr 16 (.int .u8 0)))]
abbrev zz1_r1:List AI:=[
 aM 7 0,
 aM 8 1,
 aI 9 (.call (.c (.fn f_zz27)) [(.t 8)] 0),
 aM 10 2,
 aI 11 (.call (.c (.fn f_zz27)) [(.t 10)] 0),
 aI 12 (.mkslice 1 3 (.str []) [(0,(.t 7)),(1,(.t 9)),(2,(.t 11))]),
 aI 13 (.call (.c (.fn f_zz63)) [(.c (.int .i64 130)),(.t 12)] 0),
 aS (.store 16 (.t 6) (.t 13) .any)]
abbrev zz1_c:ACode:=.seq (.reg false zz1_r0) (.seq (.reg false zz1_r1) (.ret))
def zz1_F:AFunc:=⟨14,[.cell 6 true 16],zz1_c⟩
theorem zz1_cp:ze Tryz.prog [] f_zz1=some zz1_F:=by kernel_rfl
abbrev zz56_r0:List AI:=[
 aI 1 (.box 64 (.t 0)),
 aI 2 (.mv true (.c (.str [])))]
abbrev zz56_r1:List AI:=[
 aI 3 (.load true 64 (.t 1) (.site 1)),
 aI 5 (.load true 64 (.t 1) (.site 1)),
 aI 4 (.call (.c (.fn f_zz50)) [(.t 3),(.c (.int .i64 16)),(.c (.int .i64 24))] 2),
 aI 6 (.call (.c (.fn f_zz50)) [(.t 5),(.c (.int .i64 56)),(.c (.int .i64 64))] 2),
 aI 7 (.bin .add (.t 4) (.t 6)),
 aN 2 7]
abbrev zz56_c:ACode:=.seq (.reg false zz56_r0) (.seq (.reg true zz56_r1) (.ret))
def zz56_F:AFunc:=⟨8,[.tmp 2],zz56_c⟩
theorem zz56_cp:ze Tryz.prog [] f_zz56=some zz56_F:=by kernel_rfl
abbrev zz31_r0:List AI:=[
 aI 3 (.gn (.box 3) [(.t 0)]),
 aI 4 (.gn (.box 1) [(.t 1)]),
 aI 5 (.gn (.box 1) [(.t 2)]),
 aI 6 (.mv true (.c .nilF))]
abbrev zz31_r1:List AI:=[
 aI 7 (.gd (.clo f_zz20) [(.t 3),(.t 4),(.t 5)]),
 aN 6 7]
abbrev zz31_c:ACode:=.seq (.reg false zz31_r0) (.seq (.reg false zz31_r1) (.ret))
def zz31_F:AFunc:=⟨8,[.tmp 6],zz31_c⟩
theorem zz31_cp:ze Tryz.prog [3,4,5,7] f_zz31=some zz31_F:=by kernel_rfl
abbrev zz12_r0:List AI:=[
 aI 2 (.box 64 (.t 0)),
 aI 3 (.mv true (.c (.bool false)))]
abbrev zz12_r1:List AI:=[
 aI 4 (.load true 64 (.t 2) .any),
 aI 5 (.load false 1 (.t 1) .any),
 aI 6 (.call (.c (.fn f_zz72)) [(.t 4),(.t 5)] 0),
 aN 3 6]
abbrev zz12_c:ACode:=.seq (.reg false zz12_r0) (.seq (.reg false zz12_r1) (.ret))
def zz12_F:AFunc:=⟨7,[.tmp 3],zz12_c⟩
theorem zz12_cp:ze Tryz.prog [] f_zz12=some zz12_F:=by kernel_rfl
abbrev zz72_r0:List AI:=[
 aI 2 (.gn (.box 64) [(.t 0)]),
 aI 4 (.mv true (.c (.bool false)))]
abbrev zz72_r1:List AI:=[
 aI 5 (.gd (.arrS 1 64 false true false) [(.t 2),(.c (.int .i64 8))]),
 aI 6 (.gd .b2s [(.t 5)]),
 aI 7 (.bin .eql (.t 6) (.c (.str [81,85,73,69,84,74,78,76]))),
 aM 8 7,
 aT 9 8 (.load true 64 (.t 2) .any),
 aT 10 8 (.mv false (.t 1)),
 aT 11 8 (.mkslice 1 1 (.int .i64 0) [(0,(.t 10))]),
 aT 12 8 (.call (.c (.fn f_zz51)) [(.t 9),(.c (.int .i64 129)),(.t 11)] 0),
 aI 13 (.pick (.t 8) (.t 12) (.c (.bool false))),
 aN 4 13]
abbrev zz72_c:ACode:=.seq (.reg false zz72_r0) (.seq (.reg false zz72_r1) (.ret))
def zz72_F:AFunc:=⟨14,[.tmp 4],zz72_c⟩
theorem zz72_cp:ze Tryz.prog [2,6] f_zz72=some zz72_F:=by kernel_rfl
abbrev zz52_r0:List AI:=[
 aI 1 (.gn (.box 64) [(.t 0)]),
 aI 2 (.alloc [(.int .i64 0),(.int .i64 0)])]
abbrev zz52_r1:List AI:=[
 aI 3 (.gd (.arrS 1 64 true false false) [(.t 1),(.c (.int .i64 8))]),
 aI 5 (.gd (.arrS 1 64 true false false) [(.t 1),(.c (.int .i64 12))]),
 aI 4 (.call (.c (.fn f_zz81)) [(.t 3)] 2),
 aI 6 (.call (.c (.fn f_zz81)) [(.t 5)] 2),
 aI 7 (.build [(.int .i64 0),(.int .i64 0)] [(0,1,(.t 4)),(1,1,(.t 6))]),
 aS (.store 2 (.t 2) (.t 7) (.site 2))]
abbrev zz52_c:ACode:=.seq (.reg false zz52_r0) (.seq (.reg true zz52_r1) (.ret))
def zz52_F:AFunc:=⟨8,[.cell 2 true 2],zz52_c⟩
theorem zz52_cp:ze Tryz.prog [1] f_zz52=some zz52_F:=by kernel_rfl
abbrev zz25_r0:List AI:=[
 aI 2 (.box 2 (.t 0)),
 aI 3 (.box 2 (.t 1)),
 aI 4 (.mv true (.c (.int .i64 0)))]
abbrev zz25_r1:List AI:=[
 aI 5 (.faddr 0 (.t 2)),
 aI 6 (.load false 1 (.t 5) (.site 2)),
 aI 7 (.faddr 0 (.t 3)),
 aI 8 (.load false 1 (.t 7) (.site 3)),
 aI 10 (.faddr 1 (.t 2)),
 aI 11 (.load false 1 (.t 10) (.site 2)),
 aI 12 (.faddr 1 (.t 3)),
 aI 13 (.load false 1 (.t 12) (.site 3)),
 aI 9 (.call (.c (.fn f_zz57)) [(.t 6),(.t 8)] 2),
 aI 14 (.call (.c (.fn f_zz57)) [(.t 11),(.t 13)] 2),
 aI 15 (.mkslice 1 2 (.int .i64 0) [(0,(.t 9)),(1,(.t 14))]),
 aI 16 (.call (.c (.fn f_zz86)) [(.t 15)] 2),
 aN 4 16]
abbrev zz25_c:ACode:=.seq (.reg false zz25_r0) (.seq (.reg true zz25_r1) (.ret))
def zz25_F:AFunc:=⟨17,[.tmp 4],zz25_c⟩
theorem zz25_cp:ze Tryz.prog [] f_zz25=some zz25_F:=by kernel_rfl
abbrev zz45_r0:List AI:=[
 aI 3 (.box 3 (.t 0)),
 aI 6 (.mv true (.c (.int .i64 0)))]
abbrev zz45_r1:List AI:=[
 aI 7 (.load true 3 (.t 3) .any),
 aM 8 1,
 aI 9 (.call (.c (.fn f_zz32)) [(.t 7),(.t 8)] 0),
 aI 10 (.bin .add (.t 9) (.c (.int .i64 2))),
 aM 11 2,
 aI 12 (.bin .mul (.c (.int .i64 2)) (.t 11)),
 aI 13 (.bin .add (.t 10) (.t 12)),
 aN 6 13]
abbrev zz45_c:ACode:=.seq (.reg false zz45_r0) (.seq (.reg false zz45_r1) (.ret))
def zz45_F:AFunc:=⟨14,[.tmp 6],zz45_c⟩
theorem zz45_cp:ze Tryz.prog [] f_zz45=some zz45_F:=by kernel_rfl
abbrev zz13_r0:List AI:=[
 aI 3 (.box 64 (.t 0)),
 aI 4 (.mv true (.c (.bool false)))]
abbrev zz13_r1:List AI:=[
 aI 5 (.load true 64 (.t 3) .any),
 aI 6 (.load false 1 (.t 1) .any),
 aI 7 (.load false 1 (.t 2) .any),
 aI 8 (.call (.c (.fn f_zz36)) [(.t 5),(.t 6),(.t 7)] 0),
 aN 4 8]
abbrev zz13_c:ACode:=.seq (.reg false zz13_r0) (.seq (.reg false zz13_r1) (.ret))
def zz13_F:AFunc:=⟨9,[.tmp 4],zz13_c⟩
theorem zz13_cp:ze Tryz.prog [] f_zz13=some zz13_F:=by kernel_rfl
abbrev zz36_r0:List AI:=[
 aI 3 (.gn (.box 64) [(.t 0)]),
 aI 6 (.mv true (.c (.bool false)))]
abbrev zz36_r1:List AI:=[
 aI 8 (.load true 64 (.t 3) .any),
 aM 9 1,
 aM 10 2,
 aI 11 (.call (.c (.fn f_zz85)) [(.t 8),(.t 9),(.t 10)] 0),
 aI 7 (.gn (.alloc (zr 16 (.int .u8 0))) []),
 aS (.store 16 (.t 7) (.t 11) .any)]
abbrev zz36_r2:List AI:=[
 aI 12 (.gd (.arrS 1 64 true true false) [(.t 3),(.c (.int .i64 16)),(.c (.int .i64 24))]),
 aI 13 (.gd .b2s [(.t 12)]),
 aI 14 (.gd (.arrS 1 64 true false false) [(.t 3),(.c (.int .i64 56))]),
 aI 15 (.gd .b2s [(.t 14)]),
 aI 16 (.bin .add (.t 13) (.t 15)),
 aI 17 (.gd (.arrS 1 16 false false false) [(.t 7)]),
 aI 18 (.gd .b2s [(.t 17)]),
 aI 19 (.bin .eql (.t 16) (.t 18)),
 aN 6 19]
abbrev zz36_c:ACode:=.seq (.reg false zz36_r0) (.seq (.reg false zz36_r1) (.seq (.reg true zz36_r2) (.ret)))
def zz36_F:AFunc:=⟨20,[.tmp 6],zz36_c⟩
theorem zz36_cp:ze Tryz.prog [3,7,13,15,18] f_zz36=some zz36_F:=by kernel_rfl
abbrev zz26_r0:List AI:=[
 aI 1 (.gn (.box 64) [(.t 0)]),
 aI 2 (.alloc ([(.int .i64 0),(.int .i64 0)]++zr 40 (.int .u8 0)))]
abbrev zz26_r1:List AI:=[
 aI 3 (.gd (.arrS 1 64 true false false) [(.t 1),(.c (.int .i64 0))]),
 aI 5 (.gd (.arrS 1 64 true false false) [(.t 1),(.c (.int .i64 4))]),
 aI 7 (.gd (.arrS 1 64 true true false) [(.t 1),(.c (.int .i64 8)),(.c (.int .i64 16))]),
 aI 8 (.gd (.s2a 8) [(.t 7)]),
 aI 9 (.load true 8 (.t 8) .foreign),
 aI 10 (.iaddrA 64 1 (.t 1) (.c (.int .i64 24))),
 aI 11 (.load false 1 (.t 10) .foreign),
 aI 12 (.iaddrA 64 1 (.t 1) (.c (.int .i64 25))),
 aI 13 (.load false 1 (.t 12) .foreign),
 aI 14 (.gd (.arrS 1 64 true true false) [(.t 1),(.c (.int .i64 26)),(.c (.int .i64 56))]),
 aI 15 (.gd (.s2a 30) [(.t 14)]),
 aI 16 (.load true 30 (.t 15) .foreign),
 aI 4 (.call (.c (.fn f_zz81)) [(.t 3)] 1),
 aI 6 (.call (.c (.fn f_zz81)) [(.t 5)] 1),
 aI 17 (.build ([(.int .i64 0),(.int .i64 0)]++zr 40 (.int .u8 0)) [(0,1,(.t 4)),(1,1,(.t 6)),(2,8,(.t 9)),(10,1,(.t 11)),(11,1,(.t 13)),(12,30,(.t 16))]),
 aS (.store 42 (.t 2) (.t 17) (.site 2))]
abbrev zz26_c:ACode:=.seq (.reg false zz26_r0) (.seq (.reg true zz26_r1) (.ret))
def zz26_F:AFunc:=⟨18,[.cell 2 true 42],zz26_c⟩
theorem zz26_cp:ze Tryz.prog [1] f_zz26=some zz26_F:=by kernel_rfl
-- loop 0: [0, 1, 5]
abbrev zz82_r0:List AI:=[
 aI 5 (.mv false (.c (.int .i64 0)))]
abbrev zz82_r1:List AI:=[
 aI 6 (.bin .lss (.t 5) (.c (.int .i64 4)))]
abbrev zz82_r2:List AI:=[
 aM 7 5,
 aN 4 7]
abbrev zz82_r3:List AI:=[
 aM 8 0,
 aM 9 4,
 aM 10 1,
 aM 11 4,
 aI 12 (.bin .mul (.c (.int .i64 8)) (.t 11)),
 aI 13 (.bin .sub (.c (.int .i64 24)) (.t 12)),
 aI 14 (.bin .shr (.t 10) (.t 13)),
 aI 15 (.conv .u8 (.t 14)),
 aI 16 (.iaddr 1 (.t 8) (.t 9)),
 aS (.store 1 (.t 16) (.t 15) .any)]
abbrev zz82_r4:List AI:=[
 aI 17 (.bin .add (.t 5) (.c (.int .i64 1))),
 aM 5 17]
abbrev zz82_l0:ACode:=.seq (.reg false zz82_r1) (.seq (.cond (.t 6) (.skip) (.exit 0)) (.seq (.block 1 (.seq (.reg false zz82_r2) (.reg false zz82_r3))) (.reg false zz82_r4)))
abbrev zz82_c:ACode:=.seq (.reg false zz82_r0) (.block 0 (.loop zz82_l0))
def zz82_F:AFunc:=⟨18,[],zz82_c⟩
theorem zz82_cp:ze Tryz.prog [] f_zz82=some zz82_F:=by kernel_rfl
abbrev zz83_r0:List AI:=[
 aM 7 0,
 aI 8 (.nilck (.t 7)),
 aI 9 (.load true 64 (.t 8) .any),
 aM 10 1,
 aM 11 2,
 aI 12 (.call (.c (.fn f_zz71)) [(.t 9),(.t 10),(.t 11)] 0),
 aI 6 (.gn (.alloc (zr 16 (.int .u8 0))) []),
 aS (.store 16 (.t 6) (.t 12) .any)]
abbrev zz83_r1:List AI:=[
 aM 13 0,
 aI 14 (.nilck (.t 13)),
 aI 15 (.gd (.arrS 1 64 true false false) [(.t 14),(.c (.int .i64 48))]),
 aI 16 (.gd (.arrS 1 16 false false false) [(.t 6)]),
 aI 17 (.copy 1 (.t 15) (.t 16))]
abbrev zz83_c:ACode:=.seq (.reg false zz83_r0) (.reg true zz83_r1)
def zz83_F:AFunc:=⟨18,[],zz83_c⟩
theorem zz83_cp:ze Tryz.prog [6] f_zz83=some zz83_F:=by kernel_rfl
abbrev zz18_r0:List AI:=[
 aI 1 (.gn (.box 1) [(.t 0)]),
 aI 2 (.mv true (.c .nilF))]
abbrev zz18_r1:List AI:=[
 aI 3 (.gd (.clo f_zz9) [(.t 1)]),
 aN 2 3]
abbrev zz18_c:ACode:=.seq (.reg false zz18_r0) (.seq (.reg false zz18_r1) (.ret))
def zz18_F:AFunc:=⟨4,[.tmp 2],zz18_c⟩
theorem zz18_cp:ze Tryz.prog [1,3] f_zz18=some zz18_F:=by kernel_rfl
abbrev zz10_r0:List AI:=[
 aI 1 (.box 42 (.t 0)),
 aI 2 (.mv true (.c (.bool false)))]
abbrev zz10_r1:List AI:=[
 aI 3 (.faddr 10 (.t 1)),
 aI 4 (.load false 1 (.t 3) .any),
 aI 5 (.bin .eql (.t 4) (.c (.int .u8 1))),
 aM 6 5,
 aF 7 6 (.faddr 10 (.t 1)),
 aF 8 6 (.load false 1 (.t 7) .any),
 aF 9 6 (.bin .eql (.t 8) (.c (.int .u8 3))),
 aI 10 (.pick (.t 6) (.c (.bool true)) (.t 9)),
 aN 2 10]
abbrev zz10_c:ACode:=.seq (.reg false zz10_r0) (.seq (.reg false zz10_r1) (.ret))
def zz10_F:AFunc:=⟨11,[.tmp 2],zz10_c⟩
theorem zz10_cp:ze Tryz.prog [] f_zz10=some zz10_F:=by kernel_rfl
abbrev zz6_r0:List AI:=[
 aI 1 (.gn (.box 42) [(.t 0)]),
 aI 2 (.mv true (.c (.str [])))]
abbrev zz6_r1:List AI:=[
 aI 3 (.faddr 12 (.t 1)),
 aI 4 (.faddr 11 (.t 1)),
 aI 5 (.load false 1 (.t 4) .any),
 aI 6 (.gd (.arrS 1 30 false true false) [(.t 3),(.t 5)]),
 aI 7 (.gd .b2s [(.t 6)]),
 aN 2 7]
abbrev zz6_c:ACode:=.seq (.reg false zz6_r0) (.seq (.reg false zz6_r1) (.ret))
def zz6_F:AFunc:=⟨8,[.tmp 2],zz6_c⟩
theorem zz6_cp:ze Tryz.prog [1,7] f_zz6=some zz6_F:=by kernel_rfl
abbrev zz19_r0:List AI:=[
 aI 1 (.box 42 (.t 0)),
 aI 2 (.mv true (.c (.bool false)))]
abbrev zz19_r1:List AI:=[
 aI 3 (.faddr 10 (.t 1)),
 aI 4 (.load false 1 (.t 3) .any),
 aI 5 (.bin .eql (.t 4) (.c (.int .u8 2))),
 aM 6 5,
 aF 7 6 (.faddr 10 (.t 1)),
 aF 8 6 (.load false 1 (.t 7) .any),
 aF 9 6 (.bin .eql (.t 8) (.c (.int .u8 3))),
 aI 10 (.pick (.t 6) (.c (.bool true)) (.t 9)),
 aN 2 10]
abbrev zz19_c:ACode:=.seq (.reg false zz19_r0) (.seq (.reg false zz19_r1) (.ret))
def zz19_F:AFunc:=⟨11,[.tmp 2],zz19_c⟩
theorem zz19_cp:ze Tryz.prog [] f_zz19=some zz19_F:=by kernel_rfl
abbrev zz30_r0:List AI:=[
 aI 5 (.box 2 (.t 0)),
 aI 6 (.box 8 (.t 1)),
 aI 10 (.alloc ([(.int .i64 0),(.int .i64 0)]++zr 40 (.int .u8 0)))]
abbrev zz30_r1:List AI:=[
 aI 12 (.faddr 0 (.t 5)),
 aI 13 (.load false 1 (.t 12) .any),
 aI 14 (.faddr 1 (.t 5)),
 aI 15 (.load false 1 (.t 14) .any),
 aI 16 (.load true 8 (.t 6) .any),
 aM 17 2,
 aI 18 (.len true (.t 17)),
 aI 19 (.conv .u8 (.t 18)),
 aI 20 (.build ([(.int .i64 0),(.int .i64 0)]++zr 40 (.int .u8 0)) [(0,1,(.t 13)),(1,1,(.t 15)),(2,8,(.t 16)),(11,1,(.t 19))]),
 aI 11 (.gn (.alloc ([(.int .i64 0),(.int .i64 0)]++zr 40 (.int .u8 0))) []),
 aS (.store 42 (.t 11) (.t 20) .any)]
abbrev zz30_r2:List AI:=[
 aI 21 (.faddr 12 (.t 11)),
 aI 22 (.gd (.arrS 1 30 false false false) [(.t 21)]),
 aM 23 2,
 aI 24 (.gd .copyS [(.t 22),(.t 23)])]
abbrev zz30_r3:List AI:=[
 aM 25 3]
abbrev zz30_r4:List AI:=[
 aI 26 (.faddr 10 (.t 11)),
 aI 27 (.load false 1 (.t 26) .any),
 aI 28 (.bin .add (.t 27) (.c (.int .u8 1))),
 aI 29 (.faddr 10 (.t 11)),
 aS (.store 1 (.t 29) (.t 28) .any)]
abbrev zz30_r5:List AI:=[
 aM 30 4]
abbrev zz30_r6:List AI:=[
 aI 31 (.faddr 10 (.t 11)),
 aI 32 (.load false 1 (.t 31) .any),
 aI 33 (.bin .add (.t 32) (.c (.int .u8 2))),
 aI 34 (.faddr 10 (.t 11)),
 aS (.store 1 (.t 34) (.t 33) .any)]
abbrev zz30_r7:List AI:=[
 aI 35 (.load true 42 (.t 11) .any),
 aS (.store 42 (.t 10) (.t 35) .any)]
abbrev zz30_c:ACode:=.seq (.reg false zz30_r0) (.seq (.reg false zz30_r1) (.seq (.reg false zz30_r2) (.seq (.seq (.reg false zz30_r3) (.cond (.t 25) (.reg false zz30_r4) (.skip))) (.seq (.seq (.reg false zz30_r5) (.cond (.t 30) (.reg false zz30_r6) (.skip))) (.seq (.reg false zz30_r7) (.ret))))))
def zz30_F:AFunc:=⟨36,[.cell 10 true 42],zz30_c⟩
theorem zz30_cp:ze Tryz.prog [11] f_zz30=some zz30_F:=by kernel_rfl
abbrev zz11_r0:List AI:=[
 aI 3 (.gn (.box 42) [(.t 0)]),
 aI 6 (.alloc (zr 64 (.int .u8 0)))]
abbrev zz11_r1:List AI:=[
 aI 7 (.gn (.alloc (zr 64 (.int .u8 0))) [])]
abbrev zz11_r2:List AI:=[
 aI 9 (.gd (.arrS 1 64 true false false) [(.t 7),(.c (.int .i64 0))]),
 aI 10 (.faddr 0 (.t 3)),
 aI 11 (.load false 1 (.t 10) .foreign),
 aI 12 (.call (.c (.fn f_zz82)) [(.t 9),(.t 11)] 2)]
abbrev zz11_r3:List AI:=[
 aI 13 (.gd (.arrS 1 64 true false false) [(.t 7),(.c (.int .i64 4))]),
 aI 14 (.faddr 1 (.t 3)),
 aI 15 (.load false 1 (.t 14) .foreign),
 aI 16 (.call (.c (.fn f_zz82)) [(.t 13),(.t 15)] 2)]
abbrev zz11_r4:List AI:=[
 aI 17 (.gd (.arrS 1 64 true false false) [(.t 7),(.c (.int .i64 8))]),
 aI 18 (.faddr 2 (.t 3)),
 aI 19 (.gd (.arrS 1 8 false false false) [(.t 18)]),
 aI 20 (.copy 1 (.t 17) (.t 19))]
abbrev zz11_r5:List AI:=[
 aI 21 (.faddr 10 (.t 3)),
 aI 22 (.load false 1 (.t 21) .any),
 aI 23 (.faddr 11 (.t 3)),
 aI 24 (.load false 1 (.t 23) .any),
 aI 25 (.iaddrA 64 1 (.t 7) (.c (.int .i64 24))),
 aS (.store 1 (.t 25) (.t 22) .any),
 aI 26 (.iaddrA 64 1 (.t 7) (.c (.int .i64 25))),
 aS (.store 1 (.t 26) (.t 24) .any)]
abbrev zz11_r6:List AI:=[
 aI 27 (.gd (.arrS 1 64 true false false) [(.t 7),(.c (.int .i64 26))]),
 aI 28 (.faddr 12 (.t 3)),
 aI 29 (.gd (.arrS 1 30 false false false) [(.t 28)]),
 aI 30 (.copy 1 (.t 27) (.t 29))]
abbrev zz11_r7:List AI:=[
 aI 31 (.load true 64 (.t 7) .any),
 aM 32 1,
 aM 33 2,
 aI 34 (.call (.c (.fn f_zz85)) [(.t 31),(.t 32),(.t 33)] 0),
 aI 8 (.gn (.alloc (zr 16 (.int .u8 0))) []),
 aS (.store 16 (.t 8) (.t 34) .any)]
abbrev zz11_r8:List AI:=[
 aI 35 (.gd (.arrS 1 64 true false false) [(.t 7),(.c (.int .i64 16))]),
 aI 36 (.gd (.arrS 1 16 false true false) [(.t 8),(.c (.int .i64 8))]),
 aI 37 (.copy 1 (.t 35) (.t 36))]
abbrev zz11_r9:List AI:=[
 aI 38 (.gd (.arrS 1 64 true false false) [(.t 7),(.c (.int .i64 56))]),
 aI 39 (.gd (.arrS 1 16 true false false) [(.t 8),(.c (.int .i64 8))]),
 aI 40 (.copy 1 (.t 38) (.t 39))]
abbrev zz11_r10:List AI:=[
 aI 41 (.load true 64 (.t 7) .any),
 aS (.store 64 (.t 6) (.t 41) .any)]
abbrev zz11_c:ACode:=.seq (.reg false zz11_r0) (.seq (.reg false zz11_r1) (.seq (.reg true zz11_r2) (.seq (.reg true zz11_r3) (.seq (.reg true zz11_r4) (.seq (.reg false zz11_r5) (.seq (.reg true zz11_r6) (.seq (.reg false zz11_r7) (.seq (.reg true zz11_r8) (.seq (.reg true zz11_r9) (.seq (.reg false zz11_r10) (.ret)))))))))))
def zz11_F:AFunc:=⟨42,[.cell 6 true 64],zz11_c⟩
theorem zz11_cp:ze Tryz.prog [3,7,8,12,16] f_zz11=some zz11_F:=by kernel_rfl
abbrev zz78_r0:List AI:=[
 aI 1 (.gn (.box 64) [(.t 0)]),
 aI 2 (.alloc (zr 8 (.int .u8 0)))]
abbrev zz78_r1:List AI:=[
 aI 3 (.gd (.arrS 1 64 true true false) [(.t 1),(.c (.int .i64 16)),(.c (.int .i64 24))]),
 aI 4 (.gd (.s2a 8) [(.t 3)]),
 aI 5 (.load true 8 (.t 4) .any),
 aS (.store 8 (.t 2) (.t 5) .any)]
abbrev zz78_c:ACode:=.seq (.reg false zz78_r0) (.seq (.reg false zz78_r1) (.ret))
def zz78_F:AFunc:=⟨6,[.cell 2 true 8],zz78_c⟩
theorem zz78_cp:ze Tryz.prog [1] f_zz78=some zz78_F:=by kernel_rfl
abbrev zz27_r0:List AI:=[
 aI 2 (.mv true (.c (.str [])))]
abbrev zz27_r1:List AI:=[
 aM 3 0,
 aI 4 (.call (.c (.fn f_zz54)) [(.t 3)] 0),
 aI 5 (.b2s (.t 4)),
 aN 2 5]
abbrev zz27_c:ACode:=.seq (.reg false zz27_r0) (.seq (.reg false zz27_r1) (.ret))
def zz27_F:AFunc:=⟨6,[.tmp 2],zz27_c⟩
theorem zz27_cp:ze Tryz.prog [] f_zz27=some zz27_F:=by kernel_rfl
-- loop 0: [0, 1, 2, 3, 8]
abbrev zz20_r0:List AI:=[
 aI 8 (.mv false (.c (.int .i64 0)))]
abbrev zz20_r1:List AI:=[
 aI 9 (.bin .lss (.t 8) (.c (.int .i64 2)))]
abbrev zz20_r2:List AI:=[
 aM 10 8,
 aN 5 10]
abbrev zz20_r3:List AI:=[
 aI 12 (.faddr 0 (.t 1)),
 aI 13 (.load false 1 (.t 12) .any),
 aI 14 (.load false 1 (.t 2) .any),
 aM 15 5,
 aI 16 (.bin .add (.t 14) (.t 15)),
 aI 17 (.call (.c (.fn f_zz66)) [(.t 13),(.t 16)] 0),
 aM 11 17,
 aI 18 (.ext (.t 11) 0),
 aI 19 (.ext (.t 11) 1),
 aI 6 (.alloc (zr 64 (.int .u8 0))),
 aS (.store 64 (.t 6) (.t 18) .any),
 aN 7 19]
abbrev zz20_r4:List AI:=[
 aM 20 7,
 aI 21 (.bin .eql (.t 20) (.c (.int .i64 0))),
 aM 22 21,
 aT 23 22 (.load false 1 (.t 3) .any),
 aT 24 22 (.load true 64 (.t 6) .any),
 aT 25 22 (.call (.t 23) [(.t 24)] 0),
 aI 26 (.pick (.t 22) (.t 25) (.c (.bool false))),
 aM 27 26,
 aT 28 27 (.mv false (.t 0)),
 aT 29 27 (.load true 64 (.t 6) .any),
 aT 30 27 (.call (.t 28) [(.t 29)] 0),
 aT 31 27 (.not (.t 30)),
 aI 32 (.pick (.t 27) (.t 31) (.c (.bool false)))]
abbrev zz20_r5:List AI:=[
 aI 33 (.bin .add (.t 8) (.c (.int .i64 1))),
 aM 8 33]
abbrev zz20_l0:ACode:=.seq (.reg false zz20_r1) (.seq (.cond (.t 9) (.skip) (.exit 0)) (.seq (.block 1 (.seq (.reg false zz20_r2) (.seq (.reg false zz20_r3) (.seq (.reg false zz20_r4) (.cond (.t 32) (.ret) (.skip)))))) (.reg false zz20_r5)))
abbrev zz20_c:ACode:=.seq (.reg false zz20_r0) (.block 0 (.loop zz20_l0))
def zz20_F:AFunc:=⟨34,[],zz20_c⟩
theorem zz20_cp:ze Tryz.prog [] f_zz20=some zz20_F:=by kernel_rfl
abbrev zz51_r0:List AI:=[
 aI 3 (.gn (.box 64) [(.t 0)]),
 aI 6 (.mv true (.c (.bool false)))]
abbrev zz51_r1:List AI:=[
 aI 7 (.load true 64 (.t 3) .foreign),
 aM 8 1,
 aM 9 2,
 aI 11 (.gd (.arrS 1 64 true false false) [(.t 3),(.c (.int .i64 48))]),
 aI 12 (.gd (.s2a 16) [(.t 11)]),
 aI 13 (.load true 16 (.t 12) .foreign),
 aI 10 (.call (.c (.fn f_zz71)) [(.t 7),(.t 8),(.t 9)] 1),
 aI 14 (.eqs false (kr 16 .i) (.t 10) (.t 13)),
 aN 6 14]
abbrev zz51_c:ACode:=.seq (.reg false zz51_r0) (.seq (.reg true zz51_r1) (.ret))
def zz51_F:AFunc:=⟨15,[.tmp 6],zz51_c⟩
theorem zz51_cp:ze Tryz.prog [3] f_zz51=some zz51_F:=by kernel_rfl
-- loop 0: [3, 7, 8, 9]
abbrev zz81_r0:List AI:=[
 aI 2 (.mv true (.c (.int .i64 0)))]
abbrev zz81_r1:List AI:=[
 aI 3 (.mv true (.c (.int .i64 0)))]
abbrev zz81_r2:List AI:=[
 aM 6 0,
 aI 7 (.sl 1 (.t 6) none (some (.c (.int .i64 4)))),
 aI 8 (.len false (.t 7)),
 aI 9 (.mv false (.c (.int .i64 0)))]
abbrev zz81_r3:List AI:=[
 aI 10 (.bin .lss (.t 9) (.t 8))]
abbrev zz81_r4:List AI:=[
 aI 11 (.iaddr 1 (.t 7) (.t 9)),
 aI 12 (.load false 1 (.t 11) .any),
 aN 5 12]
abbrev zz81_r5:List AI:=[
 aM 13 3,
 aI 14 (.bin .shl (.t 13) (.c (.int .u64 8))),
 aM 15 5,
 aI 16 (.conv .i64 (.t 15)),
 aI 17 (.bin .or (.t 14) (.t 16)),
 aN 3 17]
abbrev zz81_r6:List AI:=[
 aI 18 (.bin .add (.t 9) (.c (.int .i64 1))),
 aM 9 18]
abbrev zz81_l0:ACode:=.seq (.reg false zz81_r3) (.seq (.cond (.t 10) (.skip) (.exit 0)) (.seq (.block 1 (.seq (.reg false zz81_r4) (.reg false zz81_r5))) (.reg false zz81_r6)))
abbrev zz81_r7:List AI:=[
 aM 19 3,
 aN 2 19]
abbrev zz81_c:ACode:=.seq (.reg false zz81_r0) (.seq (.reg false zz81_r1) (.seq (.seq (.reg false zz81_r2) (.block 0 (.loop zz81_l0))) (.seq (.reg false zz81_r7) (.ret))))
def zz81_F:AFunc:=⟨20,[.tmp 2],zz81_c⟩
theorem zz81_cp:ze Tryz.prog [] f_zz81=some zz81_F:=by kernel_rfl
abbrev zz85_r0:List AI:=[
 aI 3 (.gn (.box 64) [(.t 0)]),
 aI 6 (.alloc (zr 16 (.int .u8 0)))]
abbrev zz85_r1:List AI:=[
 aI 7 (.gd (.arrS 1 64 false true false) [(.t 3),(.c (.int .i64 16))]),
 aI 8 (.gd .b2s [(.t 7)]),
 aI 9 (.gd (.arrS 1 64 true true false) [(.t 3),(.c (.int .i64 24)),(.c (.int .i64 56))]),
 aI 10 (.gd .b2s [(.t 9)]),
 aI 11 (.bin .add (.t 8) (.t 10)),
 aM 12 1,
 aM 15 2,
 aI 13 (.call (.c (.fn f_zz92)) [(.t 12)] 1),
 aI 14 (.b2s (.t 13)),
 aI 16 (.call (.c (.fn f_zz92)) [(.t 15)] 1),
 aI 17 (.b2s (.t 16)),
 aI 18 (.mkslice 1 3 (.str []) [(0,(.t 11)),(1,(.t 14)),(2,(.t 17))]),
 aI 19 (.call (.c (.fn f_zz93)) [(.c (.int .i64 130)),(.t 18)] 1),
 aS (.store 16 (.t 6) (.t 19) (.site 6))]
abbrev zz85_c:ACode:=.seq (.reg false zz85_r0) (.seq (.reg true zz85_r1) (.ret))
def zz85_F:AFunc:=⟨20,[.cell 6 true 16],zz85_c⟩
theorem zz85_cp:ze Tryz.prog [3,8,10] f_zz85=some zz85_F:=by kernel_rfl
-- loop 0: [1, 6, 7, 13, 14, 15]
abbrev zz71_r0:List AI:=[
 aI 3 (.gn (.box 64) [(.t 0)]),
 aI 6 (.alloc (zr 16 (.int .u8 0)))]
abbrev zz71_r1:List AI:=[
 aI 10 (.gd (.arrS 1 64 false true false) [(.t 3),(.c (.int .i64 48))]),
 aI 11 (.gd .b2s [(.t 10)]),
 aI 12 (.mkslice 1 1 (.str []) [(0,(.t 11))]),
 aN 7 12]
abbrev zz71_r2:List AI:=[
 aM 13 2,
 aI 14 (.len false (.t 13)),
 aI 15 (.mv false (.c (.int .i64 0)))]
abbrev zz71_r3:List AI:=[
 aI 16 (.bin .lss (.t 15) (.t 14))]
abbrev zz71_r4:List AI:=[
 aI 17 (.iaddr 1 (.t 13) (.t 15)),
 aI 18 (.load false 1 (.t 17) .any),
 aN 9 18]
abbrev zz71_r5:List AI:=[
 aN 19 7,
 aM 20 9,
 aI 21 (.call (.c (.fn f_zz92)) [(.t 20)] 0),
 aI 22 (.b2s (.t 21)),
 aI 23 (.mkslice 1 1 (.str []) [(0,(.t 22))]),
 aI 24 (.append 1 16 (.t 19) (.t 23)),
 aN 7 24]
abbrev zz71_r6:List AI:=[
 aI 25 (.bin .add (.t 15) (.c (.int .i64 1))),
 aM 15 25]
abbrev zz71_l0:ACode:=.seq (.reg false zz71_r3) (.seq (.cond (.t 16) (.skip) (.exit 0)) (.seq (.block 1 (.seq (.reg false zz71_r4) (.reg false zz71_r5))) (.reg false zz71_r6)))
abbrev zz71_r7:List AI:=[
 aM 26 1,
 aM 27 7,
 aI 28 (.call (.c (.fn f_zz93)) [(.t 26),(.t 27)] 0),
 aS (.store 16 (.t 6) (.t 28) .any)]
abbrev zz71_c:ACode:=.seq (.reg false zz71_r0) (.seq (.reg false zz71_r1) (.seq (.seq (.reg false zz71_r2) (.block 0 (.loop zz71_l0))) (.seq (.reg false zz71_r7) (.ret))))
def zz71_F:AFunc:=⟨29,[.cell 6 true 16],zz71_c⟩
theorem zz71_cp:ze Tryz.prog [3,11] f_zz71=some zz71_F:=by kernel_rfl
-- loop 0: [7, 8, 9, 42]
-- loop 1: [0, 1, 3, 4, 21, 22]
abbrev zz9_r0:List AI:=[
 aI 13 (.load false 1 (.t 1) .any),
 aI 14 (.nilck (.t 13)),
 aI 15 (.faddr 7 (.t 14)),
 aI 16 (.load true 8 (.t 15) .any),
 aI 3 (.gn (.alloc (zr 8 (.int .u8 0))) []),
 aI 4 (.gn (.alloc [(.bool false)]) []),
 aS (.store 8 (.t 3) (.t 16) .any),
 aS (.store 1 (.t 4) (.c (.bool true)) .any)]
abbrev zz9_r1:List AI:=[
 aI 17 (.load false 1 (.t 1) .any),
 aI 18 (.nilck (.t 17)),
 aI 19 (.faddr 0 (.t 18)),
 aI 20 (.load true 3 (.t 19) .any),
 aI 21 (.call (.c (.fn f_zz37)) [(.t 20)] 0),
 aI 22 (.mv false (.c (.int .i64 0)))]
abbrev zz9_r2:List AI:=[
 aI 23 (.bin .lss (.t 22) (.t 21))]
abbrev zz9_r3:List AI:=[
 aM 24 22,
 aI 5 (.gn (.alloc [(.int .i64 0)]) []),
 aS (.store 1 (.t 5) (.t 24) .any)]
abbrev zz9_r4:List AI:=[
 aI 25 (.gd (.clo f_zz4) [(.t 1),(.t 5),(.t 3),(.t 4)]),
 aN 6 25]
abbrev zz9_r5:List AI:=[
 aI 7 (.gn (.alloc (zr 64 (.int .u8 0))) [])]
abbrev zz9_r6:List AI:=[
 aI 8 (.gn (.alloc [(.bool false)]) []),
 aI 9 (.gn (.alloc [(.int .i64 0)]) []),
 aS (.store 1 (.t 8) (.c (.bool false)) .any),
 aS (.store 1 (.t 9) (.c (.int .i64 0)) .any)]
abbrev zz9_r7:List AI:=[
 aI 26 (.load false 1 (.t 1) .foreign),
 aI 27 (.nilck (.t 26)),
 aI 28 (.faddr 0 (.t 27)),
 aI 29 (.load true 3 (.t 28) .foreign),
 aI 30 (.load false 1 (.t 1) .foreign),
 aI 31 (.nilck (.t 30)),
 aI 32 (.faddr 0 (.t 31)),
 aI 33 (.load true 3 (.t 32) .foreign),
 aI 34 (.load false 1 (.t 1) .foreign),
 aI 35 (.nilck (.t 34)),
 aI 36 (.faddr 5 (.t 35)),
 aI 37 (.load false 1 (.t 36) .foreign),
 aI 38 (.load false 1 (.t 5) .foreign),
 aM 40 6,
 aI 39 (.call (.c (.fn f_zz45)) [(.t 33),(.t 37),(.t 38)] 1),
 aI 41 (.call (.c (.fn f_zz31)) [(.t 29),(.t 39),(.t 40)] 3)]
abbrev zz9_r8:List AI:=[
 aI 10 (.alloc (zr 64 (.int .u8 0))),
 aS (.store 64 (.t 10) (.t 42) .any)]
abbrev zz9_r9:List AI:=[
 aI 43 (.load true 64 (.t 10) .any),
 aI 44 (.call (.c (.fn f_zz26)) [(.t 43)] 0),
 aI 45 (.field false 1 1 (.t 44)),
 aN 11 45]
abbrev zz9_r10:List AI:=[
 aI 46 (.load false 1 (.t 8) .any),
 aI 47 (.not (.t 46)),
 aM 48 47,
 aF 49 48 (.mv false (.t 11)),
 aF 50 48 (.load false 1 (.t 9) .any),
 aF 51 48 (.bin .gtr (.t 49) (.t 50)),
 aI 52 (.pick (.t 48) (.c (.bool true)) (.t 51))]
abbrev zz9_r11:List AI:=[
 aI 53 (.load true 64 (.t 10) (.site 10)),
 aM 54 11,
 aS (.store 1 (.t 8) (.c (.bool true)) .gp),
 aS (.store 64 (.t 7) (.t 53) .gp),
 aS (.store 1 (.t 9) (.t 54) .gp)]
abbrev zal:ACode:=.reg false zz9_r8
abbrev journal_Journal_chain_1_y0b:ACode:=.block 3 (.seq (.reg false zz9_r9) (.seq (.reg false zz9_r10) (.cond (.t 52) (.reg true zz9_r11) (.skip))))
abbrev zz9_r12:List AI:=[
 aI 55 (.load false 1 (.t 8) .any),
 aI 56 (.not (.t 55))]
abbrev zz9_r13:List AI:=[
 aI 57 (.load true 64 (.t 7) .any),
 aI 58 (.call (.c (.fn f_zz26)) [(.t 57)] 0),
 aI 12 (.alloc ([(.int .i64 0),(.int .i64 0)]++zr 40 (.int .u8 0))),
 aS (.store 42 (.t 12) (.t 58) .any)]
abbrev zz9_r14:List AI:=[
 aI 59 (.load true 64 (.t 7) .foreign),
 aI 61 (.load true 42 (.t 12) (.site 12)),
 aI 60 (.call (.c (.fn f_zz78)) [(.t 59)] 1),
 aI 62 (.call (.c (.fn f_zz19)) [(.t 61)] 1),
 aS (.store 8 (.t 3) (.t 60) .gp),
 aS (.store 1 (.t 4) (.t 62) .gp)]
abbrev zz9_r15:List AI:=[
 aM 63 0,
 aI 64 (.load true 42 (.t 12) .any),
 aI 65 (.load true 8 (.t 3) .any),
 aI 66 (.call (.t 63) [(.t 64),(.t 65)] 0),
 aI 67 (.not (.t 66))]
abbrev zz9_r16:List AI:=[
 aI 68 (.bin .add (.t 22) (.c (.int .i64 1))),
 aM 22 68]
abbrev zz9_l1:ACode:=.seq (.reg false zz9_r2) (.seq (.cond (.t 23) (.skip) (.exit 0)) (.seq (.block 1 (.seq (.reg false zz9_r3) (.seq (.reg false zz9_r4) (.seq (.reg false zz9_r5) (.seq (.reg false zz9_r6) (.seq (.seq (.reg true zz9_r7) (.block 2 (.rangeF (.t 41) [42] zal journal_Journal_chain_1_y0b))) (.seq (.seq (.reg false zz9_r12) (.cond (.t 56) (.ret) (.skip))) (.seq (.reg false zz9_r13) (.seq (.reg true zz9_r14) (.seq (.reg false zz9_r15) (.cond (.t 67) (.ret) (.skip)))))))))))) (.reg false zz9_r16)))
abbrev zz9_c:ACode:=.seq (.reg false zz9_r0) (.seq (.reg false zz9_r1) (.block 0 (.loop zz9_l1)))
def zz9_F:AFunc:=⟨69,[],zz9_c⟩
theorem zz9_cp:ze Tryz.prog [3,4,5,7,8,9,25] f_zz9=some zz9_F:=by kernel_rfl
abbrev zz4_r0:List AI:=[
 aI 5 (.box 64 (.t 0)),
 aI 6 (.mv true (.c (.bool false)))]
abbrev zz4_r1:List AI:=[
 aI 8 (.load true 64 (.t 5) .any),
 aI 9 (.call (.c (.fn f_zz26)) [(.t 8)] 0),
 aI 7 (.alloc ([(.int .i64 0),(.int .i64 0)]++zr 40 (.int .u8 0))),
 aS (.store 42 (.t 7) (.t 9) .any)]
abbrev zz4_r2:List AI:=[
 aI 10 (.load true 64 (.t 5) (.site 5)),
 aI 11 (.load false 1 (.t 1) .foreign),
 aI 12 (.nilck (.t 11)),
 aI 13 (.faddr 5 (.t 12)),
 aI 14 (.load false 1 (.t 13) .foreign),
 aI 15 (.load false 1 (.t 2) .foreign),
 aI 16 (.call (.c (.fn f_zz36)) [(.t 10),(.t 14),(.t 15)] 1),
 aM 17 16,
 aT 18 17 (.faddr 0 (.t 7)),
 aT 19 17 (.load false 1 (.t 18) (.site 7)),
 aT 20 17 (.load false 1 (.t 1) .foreign),
 aT 21 17 (.nilck (.t 20)),
 aT 22 17 (.faddr 3 (.t 21)),
 aT 23 17 (.faddr 0 (.t 22)),
 aT 24 17 (.load false 1 (.t 23) .foreign),
 aT 25 17 (.bin .eql (.t 19) (.t 24)),
 aI 26 (.pick (.t 17) (.t 25) (.c (.bool false))),
 aM 27 26,
 aT 28 27 (.faddr 2 (.t 7)),
 aT 29 27 (.load true 8 (.t 28) (.site 7)),
 aT 30 27 (.load true 8 (.t 3) .foreign),
 aT 31 27 (.eqs false (kr 8 .i) (.t 29) (.t 30)),
 aI 32 (.pick (.t 27) (.t 31) (.c (.bool false))),
 aM 33 32,
 aT 34 33 (.faddr 11 (.t 7)),
 aT 35 33 (.load false 1 (.t 34) (.site 7)),
 aT 36 33 (.bin .leq (.t 35) (.c (.int .u8 30))),
 aI 37 (.pick (.t 33) (.t 36) (.c (.bool false))),
 aM 38 37,
 aT 39 38 (.load true 42 (.t 7) (.site 7)),
 aT 41 38 (.load false 1 (.t 4) .foreign),
 aT 40 38 (.call (.c (.fn f_zz10)) [(.t 39)] 1),
 aT 42 38 (.eqb false (.t 40) (.t 41)),
 aI 43 (.pick (.t 38) (.t 42) (.c (.bool false))),
 aN 6 43]
abbrev zz4_c:ACode:=.seq (.reg false zz4_r0) (.seq (.reg false zz4_r1) (.seq (.reg true zz4_r2) (.ret)))
def zz4_F:AFunc:=⟨44,[.tmp 6],zz4_c⟩
theorem zz4_cp:ze Tryz.prog [] f_zz4=some zz4_F:=by kernel_rfl
end
end Go.Proofs.YtpplfpnjfjnkdaaGreatDoor
