/-
 The functions' code in the evaluator's form (second part),printed by a program of ours from the loaded program,and checked against it.
 Conditions: none.
-/
import Derived.Test.YtlejjdbmmdghmaaT40
import Derived.Test.YtlejjdbmmdghmaaEN13
namespace Go.Proofs.Ytlejjdbmmdghmaa
open Go Go.E2
noncomputable section
-- loop 0: [2, 5, 7, 8, 9, 10, 11, 12, 14, 15, 16, 17, 18, 47, 48, 49, 72]
-- loop 1: [2, 5, 7, 8, 9, 10, 11, 12, 47, 48, 49]
-- loop 2: [5, 7, 9, 10, 11, 21, 214, 215, 218]
-- loop 3: [5, 7, 9, 10, 11, 214, 215]
abbrev zz7_r0:List AI:=[
 aI 2 (.gn (.box 1) [(.t 0)]),
 aI 4 (.mv true (.c (.bool false)))]
abbrev zz7_r1:List AI:=[
 aI 26 (.call (.c (.fn f_zz14)) [] 0),
 aM 25 26,
 aI 27 (.ext (.t 25) 0),
 aI 28 (.ext (.t 25) 1),
 aI 5 (.gn (.alloc [.nilP]) []),
 aS (.store 1 (.t 5) (.t 27) .any),
 aN 6 28]
abbrev zz7_r2:List AI:=[
 aM 29 6,
 aI 30 (.not (.t 29))]
abbrev zz7_r3:List AI:=[
 aI 4 (.mv true (.c (.bool false)))]
abbrev zz7_r4:List AI:=[
 aI 31 (.load false 1 (.t 2) .any),
 aI 32 (.len false (.t 31)),
 aI 33 (.bin .eql (.t 32) (.c (.int .i64 0))),
 aM 34 33,
 aF 35 34 (.load false 1 (.t 2) .any),
 aF 36 34 (.len false (.t 35)),
 aF 37 34 (.bin .gtr (.t 36) (.c (.int .i64 4))),
 aI 38 (.pick (.t 34) (.c (.bool true)) (.t 37)),
 aM 39 38,
 aF 40 39 (.mv false (.t 1)),
 aF 41 39 (.len false (.t 40)),
 aF 42 39 (.bin .gtr (.t 41) (.c (.int .i64 40))),
 aI 43 (.pick (.t 39) (.c (.bool true)) (.t 42))]
abbrev zz7_r5:List AI:=[
 aI 44 (.call (.c (.fn f_zz11)) [] 0),
 aN 4 44]
abbrev zz7_r6:List AI:=[
 aI 7 (.gn (.alloc [(.int .i64 0),(.str []),(.int .i64 0),(.str []),(.int .i64 0),(.str []),(.int .i64 0),(.str [])]) [])]
abbrev zz7_r7:List AI:=[
 aI 8 (.alloc (zr 8 (.bool false))),
 aI 9 (.gn (.alloc (zr 8 (.bool false))) [])]
abbrev zz7_r8:List AI:=[
 aI 10 (.gn (.alloc [(.int .i64 0),(.int .i64 0),(.int .i64 0),(.int .i64 0)]) [])]
abbrev zz7_r9:List AI:=[
 aI 45 (.gd (.clo f_zz5) [(.t 9),(.t 5),(.t 10)]),
 aN 11 45]
abbrev zz7_r10:List AI:=[
 aI 46 (.gd (.clo f_zz6) [(.t 10),(.t 2),(.t 7)]),
 aN 12 46]
abbrev zz7_r11:List AI:=[
 aM 47 1,
 aI 48 (.len false (.t 47)),
 aI 49 (.mv false (.c (.int .i64 0)))]
abbrev zz7_r12:List AI:=[
 aI 50 (.bin .lss (.t 49) (.t 48))]
abbrev zz7_r13:List AI:=[
 aI 51 (.iaddr 3 (.t 47) (.t 49)),
 aI 52 (.load true 3 (.t 51) .any),
 aI 14 (.alloc [(.int .i64 0),(.int .i64 0),(.int .i64 0)]),
 aS (.store 3 (.t 14) (.t 52) .any)]
abbrev zz7_r14:List AI:=[
 aI 53 (.faddr 1 (.t 14)),
 aI 54 (.load false 1 (.t 53) (.site 14)),
 aI 55 (.conv .u64 (.t 54)),
 aI 56 (.load false 1 (.t 2) .foreign),
 aI 57 (.len false (.t 56)),
 aI 58 (.conv .u64 (.t 57)),
 aI 59 (.bin .rem (.t 55) (.t 58)),
 aI 60 (.conv .i64 (.t 59)),
 aI 61 (.faddr 2 (.t 14)),
 aI 62 (.load false 1 (.t 61) (.site 14)),
 aI 63 (.conv .u64 (.t 62)),
 aI 64 (.bin .rem (.t 63) (.c (.int .u64 2))),
 aI 65 (.conv .i64 (.t 64)),
 aN 15 60,
 aN 16 65]
abbrev zz7_r15:List AI:=[
 aI 66 (.load false 1 (.t 2) .any),
 aM 67 15,
 aM 68 16,
 aI 69 (.iaddr 2 (.t 66) (.t 67)),
 aI 70 (.iaddrA 2 1 (.t 69) (.t 68)),
 aI 71 (.load false 1 (.t 70) .any),
 aN 17 71]
abbrev zz7_r16:List AI:=[
 aI 18 (.mv true (.c (.bool true)))]
abbrev zz7_r17:List AI:=[
 aI 72 (.mv false (.c (.int .i64 0)))]
abbrev zz7_r18:List AI:=[
 aI 73 (.bin .lss (.t 72) (.c (.int .i64 2)))]
abbrev zz7_r19:List AI:=[
 aM 74 72,
 aN 19 74]
abbrev zz7_r20:List AI:=[
 aM 75 18,
 aM 76 75,
 aT 77 76 (.mv false (.t 15)),
 aT 78 76 (.mv false (.t 19)),
 aT 79 76 (.iaddrA 4 2 (.t 8) (.t 77)),
 aT 80 76 (.iaddrA 2 1 (.t 79) (.t 78)),
 aT 81 76 (.load false 1 (.t 80) .any),
 aT 82 76 (.mv false (.t 81)),
 aF 83 82 (.load false 1 (.t 2) .any),
 aF 84 82 (.mv false (.t 15)),
 aF 85 82 (.mv false (.t 19)),
 aF 86 82 (.iaddr 2 (.t 83) (.t 84)),
 aF 87 82 (.iaddrA 2 1 (.t 86) (.t 85)),
 aF 88 82 (.load false 1 (.t 87) .any),
 aF 89 82 (.len false (.t 88)),
 aF 90 82 (.bin .eql (.t 89) (.c (.int .i64 0))),
 aT 91 76 (.pick (.t 82) (.c (.bool true)) (.t 90)),
 aI 92 (.pick (.t 76) (.t 91) (.c (.bool false))),
 aN 18 92]
abbrev zz7_r21:List AI:=[
 aI 93 (.bin .add (.t 72) (.c (.int .i64 1))),
 aM 72 93]
abbrev zz7_l0:ACode:=.seq (.reg false zz7_r18) (.seq (.cond (.t 73) (.skip) (.exit 2)) (.seq (.block 3 (.seq (.reg false zz7_r19) (.reg false zz7_r20))) (.reg false zz7_r21)))
abbrev zz7_r22:List AI:=[
 aM 94 18,
 aM 95 94,
 aT 96 95 (.load false 1 (.t 2) .foreign),
 aT 97 95 (.mv false (.t 15)),
 aT 98 95 (.iaddr 2 (.t 96) (.t 97)),
 aT 99 95 (.iaddrA 2 1 (.t 98) (.c (.int .i64 0))),
 aT 100 95 (.load false 1 (.t 99) .foreign),
 aT 101 95 (.len false (.t 100)),
 aT 102 95 (.load false 1 (.t 2) .foreign),
 aT 103 95 (.mv false (.t 15)),
 aT 104 95 (.iaddr 2 (.t 102) (.t 103)),
 aT 105 95 (.iaddrA 2 1 (.t 104) (.c (.int .i64 1))),
 aT 106 95 (.load false 1 (.t 105) .foreign),
 aT 107 95 (.len false (.t 106)),
 aT 108 95 (.bin .add (.t 101) (.t 107)),
 aT 109 95 (.bin .gtr (.t 108) (.c (.int .i64 0))),
 aI 110 (.pick (.t 95) (.t 109) (.c (.bool false))),
 aN 18 110]
abbrev zz7_r23:List AI:=[
 aI 20 (.mv true (.c (.bool true)))]
abbrev zz7_r24:List AI:=[
 aI 112 (.faddr 0 (.t 14)),
 aI 113 (.load false 1 (.t 112) .any),
 aI 114 (.bin .eql (.t 113) (.c (.int .i64 0))),
 aM 115 114,
 aT 116 115 (.mv false (.t 15)),
 aT 117 115 (.mv false (.t 16)),
 aT 118 115 (.iaddrA 4 2 (.t 8) (.t 116)),
 aT 119 115 (.iaddrA 2 1 (.t 118) (.t 117)),
 aT 120 115 (.load false 1 (.t 119) .any),
 aT 121 115 (.not (.t 120)),
 aI 122 (.pick (.t 115) (.t 121) (.c (.bool false))),
 aM 123 122,
 aT 124 123 (.mv false (.t 15)),
 aT 125 123 (.iaddrA 4 1 (.t 10) (.t 124)),
 aT 126 123 (.load false 1 (.t 125) .any),
 aT 127 123 (.bin .eql (.t 126) (.c (.int .i64 0))),
 aI 128 (.pick (.t 123) (.t 127) (.c (.bool false))),
 aM 129 128,
 aT 130 129 (.mv false (.t 17)),
 aT 131 129 (.len false (.t 130)),
 aT 132 129 (.bin .gtr (.t 131) (.c (.int .i64 0))),
 aI 133 (.pick (.t 129) (.t 132) (.c (.bool false))),
 aN 111 133]
abbrev zz7_r25:List AI:=[
 aM 134 15,
 aM 135 16,
 aI 136 (.load false 1 (.t 5) .foreign),
 aI 137 (.nilck (.t 136)),
 aI 138 (.faddr 4 (.t 137)),
 aI 139 (.load false 1 (.t 138) .foreign),
 aM 140 16,
 aI 141 (.iaddr 1 (.t 139) (.t 140)),
 aI 142 (.load false 1 (.t 141) .foreign),
 aM 143 15,
 aI 144 (.bin .add (.t 143) (.c (.int .i64 1))),
 aM 145 17,
 aI 148 (.iaddrA 4 2 (.t 8) (.t 134)),
 aI 146 (.call (.c (.fn f_zz24)) [(.t 142),(.t 144),(.t 145)] 2),
 aI 147 (.bin .eql (.t 146) (.c (.int .i64 0))),
 aI 149 (.iaddrA 2 1 (.t 148) (.t 135)),
 aS (.store 1 (.t 149) (.t 147) (.site 8))]
abbrev zz7_r26:List AI:=[
 aI 151 (.faddr 0 (.t 14)),
 aI 152 (.load false 1 (.t 151) .any),
 aI 153 (.bin .eql (.t 152) (.c (.int .i64 1))),
 aM 154 153,
 aT 155 154 (.mv false (.t 18)),
 aI 156 (.pick (.t 154) (.t 155) (.c (.bool false))),
 aM 157 156,
 aT 158 157 (.mv false (.t 15)),
 aT 159 157 (.iaddrA 4 1 (.t 10) (.t 158)),
 aT 160 157 (.load false 1 (.t 159) .any),
 aT 161 157 (.bin .eql (.t 160) (.c (.int .i64 0))),
 aI 162 (.pick (.t 157) (.t 161) (.c (.bool false))),
 aN 150 162]
abbrev zz7_r27:List AI:=[
 aM 163 12,
 aM 164 15,
 aI 165 (.call (.t 163) [(.t 164)] 0),
 aM 166 165,
 aT 167 166 (.mv false (.t 11)),
 aT 168 166 (.mv false (.t 15)),
 aT 169 166 (.mv false (.t 16)),
 aT 170 166 (.call (.t 167) [(.t 168),(.t 169)] 0),
 aI 171 (.pick (.t 166) (.t 170) (.c (.bool false))),
 aN 20 171]
abbrev zz7_r28:List AI:=[
 aI 173 (.faddr 0 (.t 14)),
 aI 174 (.load false 1 (.t 173) .any),
 aI 175 (.bin .eql (.t 174) (.c (.int .i64 2))),
 aM 176 175,
 aT 177 176 (.mv false (.t 15)),
 aT 178 176 (.iaddrA 4 1 (.t 10) (.t 177)),
 aT 179 176 (.load false 1 (.t 178) .any),
 aT 180 176 (.bin .eql (.t 179) (.c (.int .i64 0))),
 aI 181 (.pick (.t 176) (.t 180) (.c (.bool false))),
 aN 172 181]
abbrev zz7_r29:List AI:=[
 aM 182 15,
 aI 183 (.iaddrA 4 1 (.t 10) (.t 182)),
 aS (.store 1 (.t 183) (.c (.int .i64 2)) .any)]
abbrev zz7_r30:List AI:=[
 aM 184 11,
 aM 185 15,
 aM 186 16,
 aI 187 (.call (.t 184) [(.t 185),(.t 186)] 0),
 aN 20 187]
abbrev zz7_r31:List AI:=[
 aI 189 (.faddr 0 (.t 14)),
 aI 190 (.load false 1 (.t 189) .any),
 aI 191 (.bin .gtr (.t 190) (.c (.int .i64 0))),
 aM 192 191,
 aT 193 192 (.mv false (.t 15)),
 aT 194 192 (.iaddrA 4 1 (.t 10) (.t 193)),
 aT 195 192 (.load false 1 (.t 194) .any),
 aT 196 192 (.bin .neq (.t 195) (.c (.int .i64 0))),
 aI 197 (.pick (.t 192) (.t 196) (.c (.bool false))),
 aM 198 197,
 aT 199 198 (.mv false (.t 15)),
 aT 200 198 (.mv false (.t 16)),
 aT 201 198 (.iaddrA 4 2 (.t 9) (.t 199)),
 aT 202 198 (.iaddrA 2 1 (.t 201) (.t 200)),
 aT 203 198 (.load false 1 (.t 202) .any),
 aT 204 198 (.not (.t 203)),
 aI 205 (.pick (.t 198) (.t 204) (.c (.bool false))),
 aN 188 205]
abbrev zz7_r32:List AI:=[
 aM 206 11,
 aM 207 15,
 aM 208 16,
 aI 209 (.call (.t 206) [(.t 207),(.t 208)] 0),
 aN 20 209]
abbrev zz7_b0:ACode:=.seq (.reg false zz7_r31) (.cond (.t 188) (.reg false zz7_r32) (.skip))
abbrev zz7_b1:ACode:=.seq (.reg false zz7_r28) (.cond (.t 172) (.seq (.reg false zz7_r29) (.reg false zz7_r30)) (zz7_b0))
abbrev zz7_b2:ACode:=.seq (.reg false zz7_r26) (.cond (.t 150) (.reg false zz7_r27) (zz7_b1))
abbrev zz7_r33:List AI:=[
 aM 210 20,
 aI 211 (.not (.t 210))]
abbrev zz7_r34:List AI:=[
 aI 4 (.mv true (.c (.bool false)))]
abbrev zz7_r35:List AI:=[
 aI 212 (.bin .add (.t 49) (.c (.int .i64 1))),
 aM 49 212]
abbrev zz7_l1:ACode:=.seq (.reg false zz7_r12) (.seq (.cond (.t 50) (.skip) (.exit 0)) (.seq (.block 1 (.seq (.reg false zz7_r13) (.seq (.reg true zz7_r14) (.seq (.reg false zz7_r15) (.seq (.reg false zz7_r16) (.seq (.seq (.reg false zz7_r17) (.block 2 (.loop zz7_l0))) (.seq (.reg true zz7_r22) (.seq (.reg false zz7_r23) (.seq (.block 4 (.seq (.reg false zz7_r24) (.cond (.t 111) (.reg true zz7_r25) (zz7_b2)))) (.seq (.reg false zz7_r33) (.cond (.t 211) (.seq (.reg false zz7_r34) (.ret)) (.skip)))))))))))) (.reg false zz7_r35)))
abbrev zz7_r36:List AI:=[
 aI 213 (.load false 1 (.t 2) .any),
 aI 214 (.len false (.t 213)),
 aI 215 (.mv false (.c (.int .i64 0)))]
abbrev zz7_r37:List AI:=[
 aI 216 (.bin .lss (.t 215) (.t 214))]
abbrev zz7_r38:List AI:=[
 aM 217 215,
 aN 21 217]
abbrev zz7_r39:List AI:=[
 aI 218 (.mv false (.c (.int .i64 0)))]
abbrev zz7_r40:List AI:=[
 aI 219 (.bin .lss (.t 218) (.c (.int .i64 2)))]
abbrev zz7_r41:List AI:=[
 aM 220 218,
 aN 22 220]
abbrev zz7_r42:List AI:=[
 aM 221 21,
 aI 222 (.iaddrA 4 1 (.t 10) (.t 221)),
 aI 223 (.load false 1 (.t 222) .any),
 aI 224 (.bin .eql (.t 223) (.c (.int .i64 0)))]
abbrev zz7_r43:List AI:=[
 aM 225 21,
 aI 226 (.iaddrA 4 1 (.t 10) (.t 225)),
 aS (.store 1 (.t 226) (.c (.int .i64 2)) .any)]
abbrev zz7_r44:List AI:=[
 aM 227 21,
 aM 228 22,
 aI 229 (.iaddrA 4 2 (.t 9) (.t 227)),
 aI 230 (.iaddrA 2 1 (.t 229) (.t 228)),
 aI 231 (.load false 1 (.t 230) .any),
 aI 232 (.not (.t 231)),
 aM 233 232,
 aT 234 233 (.mv false (.t 11)),
 aT 235 233 (.mv false (.t 21)),
 aT 236 233 (.mv false (.t 22)),
 aT 237 233 (.call (.t 234) [(.t 235),(.t 236)] 0),
 aT 238 233 (.not (.t 237)),
 aI 239 (.pick (.t 233) (.t 238) (.c (.bool false)))]
abbrev zz7_r45:List AI:=[
 aI 4 (.mv true (.c (.bool false)))]
abbrev zz7_r46:List AI:=[
 aI 240 (.bin .add (.t 218) (.c (.int .i64 1))),
 aM 218 240]
abbrev zz7_l2:ACode:=.seq (.reg false zz7_r40) (.seq (.cond (.t 219) (.skip) (.exit 7)) (.seq (.block 8 (.seq (.reg false zz7_r41) (.seq (.seq (.reg false zz7_r42) (.cond (.t 224) (.reg false zz7_r43) (.skip))) (.seq (.reg false zz7_r44) (.cond (.t 239) (.seq (.reg false zz7_r45) (.ret)) (.skip)))))) (.reg false zz7_r46)))
abbrev zz7_r47:List AI:=[
 aI 241 (.bin .add (.t 215) (.c (.int .i64 1))),
 aM 215 241]
abbrev zz7_l3:ACode:=.seq (.reg false zz7_r37) (.seq (.cond (.t 216) (.skip) (.exit 5)) (.seq (.block 6 (.seq (.reg false zz7_r38) (.seq (.reg false zz7_r39) (.block 7 (.loop zz7_l2))))) (.reg false zz7_r47)))
abbrev zz7_r48:List AI:=[
 aI 243 (.load false 1 (.t 5) .any),
 aI 244 (.call (.c (.fn f_zz8)) [(.t 243)] 0),
 aM 242 244,
 aI 245 (.ext (.t 242) 0),
 aI 246 (.ext (.t 242) 1),
 aI 23 (.alloc [(.int .i64 0),(.str []),(.int .i64 0),(.str []),(.int .i64 0),(.str []),(.int .i64 0),(.str [])]),
 aS (.store 8 (.t 23) (.t 245) .any),
 aN 24 246]
abbrev zz7_r49:List AI:=[
 aI 247 (.call (.c (.fn f_zz11)) [] 0),
 aM 248 247,
 aT 249 248 (.mv false (.t 24)),
 aI 250 (.pick (.t 248) (.t 249) (.c (.bool false))),
 aM 251 250,
 aT 252 251 (.load true 8 (.t 23) .any),
 aT 253 251 (.load true 8 (.t 7) .any),
 aT 254 251 (.eqs false [.i,.s,.i,.s,.i,.s,.i,.s] (.t 252) (.t 253)),
 aI 255 (.pick (.t 251) (.t 254) (.c (.bool false))),
 aN 4 255]
abbrev zz7_c:ACode:=.seq (.reg false zz7_r0) (.seq (.reg false zz7_r1) (.seq (.seq (.reg false zz7_r2) (.cond (.t 30) (.seq (.reg false zz7_r3) (.ret)) (.skip))) (.seq (.seq (.reg false zz7_r4) (.cond (.t 43) (.seq (.reg false zz7_r5) (.ret)) (.skip))) (.seq (.reg false zz7_r6) (.seq (.reg false zz7_r7) (.seq (.reg false zz7_r8) (.seq (.reg false zz7_r9) (.seq (.reg false zz7_r10) (.seq (.seq (.reg false zz7_r11) (.block 0 (.loop zz7_l1))) (.seq (.seq (.reg false zz7_r36) (.block 5 (.loop zz7_l3))) (.seq (.reg false zz7_r48) (.seq (.reg false zz7_r49) (.ret)))))))))))))
def zz7_F:AFunc:=⟨256,[.tmp 4],zz7_c⟩
theorem zz7_cp:zj Try.prog [2,5,7,9,10,45,46,146] f_zz7=some zz7_F:=by kernel_rfl
abbrev zz5_r0:List AI:=[
 aI 7 (.mv true (.c (.bool false)))]
abbrev zz5_r1:List AI:=[
 aM 8 0,
 aM 9 1,
 aI 10 (.iaddrA 4 2 (.t 2) (.t 8)),
 aI 11 (.iaddrA 2 1 (.t 10) (.t 9)),
 aS (.store 1 (.t 11) (.c (.bool true)) .any)]
abbrev zz5_r2:List AI:=[
 aI 12 (.load false 1 (.t 3) .foreign),
 aI 13 (.nilck (.t 12)),
 aI 14 (.faddr 4 (.t 13)),
 aI 15 (.load false 1 (.t 14) .foreign),
 aM 16 1,
 aI 17 (.iaddr 1 (.t 15) (.t 16)),
 aI 18 (.load false 1 (.t 17) .foreign),
 aM 19 0,
 aI 20 (.bin .add (.t 19) (.c (.int .i64 1))),
 aM 21 0,
 aI 22 (.iaddrA 4 1 (.t 4) (.t 21)),
 aI 23 (.load false 1 (.t 22) .foreign),
 aI 24 (.bin .eql (.t 23) (.c (.int .i64 1))),
 aI 25 (.call (.c (.fn f_zz33)) [(.t 18),(.t 20),(.t 24)] 2),
 aI 26 (.bin .eql (.t 25) (.c (.int .i64 0))),
 aN 7 26]
abbrev zz5_c:ACode:=.seq (.reg false zz5_r0) (.seq (.reg false zz5_r1) (.seq (.reg true zz5_r2) (.ret)))
def zz5_F:AFunc:=⟨27,[.tmp 7],zz5_c⟩
theorem zz5_cp:zj Try.prog [25] f_zz5=some zz5_F:=by kernel_rfl
-- loop 0: [0, 2, 3, 6, 11, 19, 20, 21]
-- loop 1: [0, 2, 3, 11]
abbrev zz6_r0:List AI:=[
 aI 5 (.mv true (.c (.bool false)))]
abbrev zz6_r1:List AI:=[
 aM 9 0,
 aI 10 (.iaddrA 4 1 (.t 1) (.t 9)),
 aS (.store 1 (.t 10) (.c (.int .i64 1)) .any)]
abbrev zz6_r2:List AI:=[
 aI 11 (.mv false (.c (.int .i64 0)))]
abbrev zz6_r3:List AI:=[
 aI 12 (.bin .lss (.t 11) (.c (.int .i64 2)))]
abbrev zz6_r4:List AI:=[
 aM 13 11,
 aN 6 13]
abbrev zz6_r5:List AI:=[
 aI 14 (.load false 1 (.t 2) .any),
 aM 15 0,
 aM 16 6,
 aI 17 (.iaddr 2 (.t 14) (.t 15)),
 aI 18 (.iaddrA 2 1 (.t 17) (.t 16)),
 aI 19 (.load false 1 (.t 18) .any),
 aI 20 (.len false (.t 19)),
 aI 21 (.mv false (.c (.int .i64 0)))]
abbrev zz6_r6:List AI:=[
 aI 22 (.bin .lss (.t 21) (.t 20))]
abbrev zz6_r7:List AI:=[
 aI 23 (.iaddr 4 (.t 19) (.t 21)),
 aI 24 (.load true 4 (.t 23) .any),
 aI 8 (.alloc [(.int .i64 0),(.int .i64 0),(.str []),(.bool false)]),
 aS (.store 4 (.t 8) (.t 24) .any)]
abbrev zz6_r8:List AI:=[
 aM 25 6,
 aI 26 (.faddr 0 (.t 8)),
 aI 27 (.load false 1 (.t 26) (.site 8)),
 aI 28 (.iaddrA 2 4 (.t 3) (.t 25)),
 aI 29 (.iaddrA 2 2 (.t 28) (.t 27)),
 aI 30 (.faddr 0 (.t 29)),
 aI 31 (.load false 1 (.t 30) .foreign),
 aI 32 (.faddr 1 (.t 8)),
 aI 33 (.load false 1 (.t 32) (.site 8)),
 aI 34 (.bin .neq (.t 31) (.t 33))]
abbrev zz6_r9:List AI:=[
 aI 5 (.mv true (.c (.bool false)))]
abbrev zz6_r10:List AI:=[
 aI 35 (.faddr 3 (.t 8)),
 aI 36 (.load false 1 (.t 35) .any),
 aI 37 (.not (.t 36))]
abbrev zz6_r11:List AI:=[
 aM 38 6,
 aI 39 (.faddr 0 (.t 8)),
 aI 40 (.load false 1 (.t 39) (.site 8)),
 aI 41 (.faddr 1 (.t 8)),
 aI 42 (.load false 1 (.t 41) (.site 8)),
 aI 43 (.bin .add (.t 42) (.c (.int .i64 1))),
 aI 44 (.faddr 2 (.t 8)),
 aI 45 (.load false 1 (.t 44) (.site 8)),
 aI 46 (.build [(.int .i64 0),(.str [])] [(0,1,(.t 43)),(1,1,(.t 45))]),
 aI 47 (.iaddrA 2 4 (.t 3) (.t 38)),
 aI 48 (.iaddrA 2 2 (.t 47) (.t 40)),
 aS (.store 2 (.t 48) (.t 46) .gp)]
abbrev zz6_r12:List AI:=[
 aI 49 (.bin .add (.t 21) (.c (.int .i64 1))),
 aM 21 49]
abbrev zz6_l0:ACode:=.seq (.reg false zz6_r6) (.seq (.cond (.t 22) (.skip) (.exit 2)) (.seq (.block 3 (.seq (.reg false zz6_r7) (.seq (.seq (.reg true zz6_r8) (.cond (.t 34) (.seq (.reg false zz6_r9) (.ret)) (.skip))) (.seq (.reg false zz6_r10) (.cond (.t 37) (.reg true zz6_r11) (.skip)))))) (.reg false zz6_r12)))
abbrev zz6_r13:List AI:=[
 aI 50 (.bin .add (.t 11) (.c (.int .i64 1))),
 aM 11 50]
abbrev zz6_l1:ACode:=.seq (.reg false zz6_r3) (.seq (.cond (.t 12) (.skip) (.exit 0)) (.seq (.block 1 (.seq (.reg false zz6_r4) (.seq (.reg false zz6_r5) (.block 2 (.loop zz6_l0))))) (.reg false zz6_r13)))
abbrev zz6_r14:List AI:=[
 aI 5 (.mv true (.c (.bool true)))]
abbrev zz6_c:ACode:=.seq (.reg false zz6_r0) (.seq (.reg false zz6_r1) (.seq (.seq (.reg false zz6_r2) (.block 0 (.loop zz6_l1))) (.seq (.reg false zz6_r14) (.ret))))
def zz6_F:AFunc:=⟨51,[.tmp 5],zz6_c⟩
theorem zz6_cp:zj Try.prog [] f_zz6=some zz6_F:=by kernel_rfl
end
end Go.Proofs.Ytlejjdbmmdghmaa
