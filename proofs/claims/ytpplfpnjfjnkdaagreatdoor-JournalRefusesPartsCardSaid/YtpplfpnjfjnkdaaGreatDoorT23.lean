/-
 The functions' code in the evaluator's form,printed by a program of ours from the loaded program,and checked against it.
 Conditions: none.
-/
import Derived.Test.YtpplfpnjfjnkdaaGreatDoorProg
import Derived.KernelRfl
import Derived.Test.YtpplfpnjfjnkdaaGreatDoorEZ
namespace Go.Proofs.YtpplfpnjfjnkdaaGreatDoor
open Go Go.E2
noncomputable section
abbrev aI (d:Nat) (o:AOp):AI:=⟨some d,o,none⟩
abbrev aM (d s:Nat):AI:=⟨some d,.mv false (.t s),none⟩
abbrev aN (d s:Nat):AI:=⟨some d,.mv true (.t s),none⟩
abbrev aS (o:AOp):AI:=⟨none,o,none⟩
abbrev aT (d g:Nat) (o:AOp):AI:=⟨some d,o,some (g,true)⟩
abbrev aF (d g:Nat) (o:AOp):AI:=⟨some d,o,some (g,false)⟩
abbrev iL (d n t:Nat):AI:=⟨some d,.load false n (.t t) .any,none⟩
abbrev iM (d n t:Nat):AI:=⟨some d,.load true n (.t t) .any,none⟩
abbrev iG (d n t:Nat):AI:=⟨some d,.load false n (.t t) .foreign,none⟩
abbrev iH (d n t:Nat):AI:=⟨some d,.load true n (.t t) .foreign,none⟩
abbrev iP (d n t s:Nat):AI:=⟨some d,.load false n (.t t) (.site s),none⟩
abbrev iQ (d n t s:Nat):AI:=⟨some d,.load true n (.t t) (.site s),none⟩
abbrev iD (d n t:Nat):AI:=⟨some d,.faddr n (.t t),none⟩
abbrev iS (n a v:Nat):AI:=⟨none,.store n (.t a) (.t v) .any,none⟩
abbrev iN (d t:Nat):AI:=⟨some d,.nilck (.t t),none⟩
abbrev iI (d:Nat) (k:IntKind) (n:Int):AI:=⟨some d,.mv true (.c (.int k n)),none⟩
abbrev iU (d:Nat) (f:FuncId) (a q:Nat):AI:=⟨some d,.call (.c (.fn f)) [.t a] q,none⟩
abbrev iV (d:Nat) (f:FuncId) (a b q:Nat):AI:=⟨some d,.call (.c (.fn f)) [.t a,.t b] q,none⟩
abbrev iW (d:Nat) (f:FuncId) (a b c q:Nat):AI:=⟨some d,.call (.c (.fn f)) [.t a,.t b,.t c] q,none⟩
abbrev iC (d:Nat) (f:FuncId) (l:List AO) (q:Nat):AI:=⟨some d,.call (.c (.fn f)) l q,none⟩
abbrev iB (d:Nat) (o:BinOp) (a b:Nat):AI:=⟨some d,.bin o (.t a) (.t b),none⟩
abbrev iK (d:Nat) (o:BinOp) (a:Nat) (k:IntKind) (n:Int):AI:=⟨some d,.bin o (.t a) (.c (.int k n)),none⟩
abbrev iA (d m n x i:Nat):AI:=⟨some d,.iaddrA m n (.t x) (.t i),none⟩
abbrev iEq (d m n x:Nat) (k:Int):AI:=⟨some d,.iaddrA m n (.t x) (.c (.int .i64 k)),none⟩
abbrev iR (d n x i:Nat):AI:=⟨some d,.iaddr n (.t x) (.t i),none⟩
abbrev iO (d a b:Nat):AI:=⟨some d,.pick (.t a) (.c (.bool true)) (.t b),none⟩
abbrev iY (d a b:Nat):AI:=⟨some d,.pick (.t a) (.t b) (.c (.bool false)),none⟩
abbrev iX (d t k:Nat):AI:=⟨some d,.ext (.t t) k,none⟩
abbrev iZ (d t:Nat):AI:=⟨some d,.len false (.t t),none⟩
abbrev iT (d t:Nat):AI:=⟨some d,.not (.t t),none⟩
abbrev iJq (r:List AI) (x:ACode):ACode:=.seq (.reg false r) x
abbrev f_zz0:FuncId:=3
abbrev f_zz111:FuncId:=6
abbrev f_zz76:FuncId:=7
abbrev f_zz95:FuncId:=8
abbrev f_zz34:FuncId:=9
abbrev f_zz88:FuncId:=10
abbrev f_zz28:FuncId:=11
abbrev f_zz100:FuncId:=12
abbrev f_zz67:FuncId:=13
abbrev f_zz90:FuncId:=14
abbrev f_zz48:FuncId:=15
abbrev f_zz46:FuncId:=16
abbrev f_zz24:FuncId:=18
abbrev f_zz25:FuncId:=19
abbrev f_zz14:FuncId:=20
abbrev f_zz13:FuncId:=21
abbrev f_zz96:FuncId:=22
abbrev f_zz86:FuncId:=24
abbrev f_zz35:FuncId:=25
abbrev f_zz22:FuncId:=26
abbrev f_zz68:FuncId:=27
abbrev f_zz81:FuncId:=30
abbrev f_zz89:FuncId:=31
abbrev f_zz29:FuncId:=32
abbrev f_zz101:FuncId:=33
abbrev f_zz33:FuncId:=34
abbrev f_zz93:FuncId:=35
abbrev f_zz42:FuncId:=36
abbrev f_zz37:FuncId:=37
abbrev f_zz70:FuncId:=38
abbrev f_zz3:FuncId:=39
abbrev f_zz2:FuncId:=40
abbrev f_zz71:FuncId:=41
abbrev f_zz10:FuncId:=42
abbrev f_zz62:FuncId:=43
abbrev f_zz45:FuncId:=44
abbrev f_zz60:FuncId:=45
abbrev f_zz23:FuncId:=46
abbrev f_zz49:FuncId:=47
abbrev f_zz36:FuncId:=48
abbrev f_zz64:FuncId:=49
abbrev f_zz79:FuncId:=50
abbrev f_zz6:FuncId:=51
abbrev f_zz105:FuncId:=52
abbrev f_zz41:FuncId:=53
abbrev f_zz54:FuncId:=54
abbrev f_zz8:FuncId:=55
abbrev f_zz11:FuncId:=56
abbrev f_zz59:FuncId:=57
abbrev f_zz65:FuncId:=58
abbrev f_zz5:FuncId:=59
abbrev f_zz77:FuncId:=60
abbrev f_zz27:FuncId:=68
abbrev f_zz87:FuncId:=71
abbrev f_zz85:FuncId:=72
abbrev f_zz44:FuncId:=73
abbrev f_zz18:FuncId:=74
abbrev f_zz92:FuncId:=75
abbrev f_zz73:FuncId:=76
abbrev f_zz38:FuncId:=77
abbrev f_zz63:FuncId:=78
abbrev f_zz19:FuncId:=79
abbrev f_zz53:FuncId:=80
abbrev f_zz39:FuncId:=81
abbrev f_zz103:FuncId:=82
abbrev f_zz104:FuncId:=83
abbrev f_zz30:FuncId:=84
abbrev f_zz16:FuncId:=85
abbrev f_zz12:FuncId:=86
abbrev f_zz31:FuncId:=87
abbrev f_zz50:FuncId:=88
abbrev f_zz1:FuncId:=89
abbrev f_zz7:FuncId:=90
abbrev f_zz4:FuncId:=91
abbrev f_zz80:FuncId:=92
abbrev f_zz20:FuncId:=93
abbrev f_zz69:FuncId:=94
abbrev f_zz51:FuncId:=95
abbrev f_zz61:FuncId:=96
abbrev f_zz108:FuncId:=97
abbrev f_zz43:FuncId:=98
abbrev f_zz17:FuncId:=99
abbrev f_zz99:FuncId:=100
abbrev f_zz84:FuncId:=101
abbrev f_zz40:FuncId:=102
abbrev f_zz21:FuncId:=104
abbrev f_zz32:FuncId:=107
abbrev f_zz72:FuncId:=108
abbrev f_zz102:FuncId:=109
abbrev f_zz107:FuncId:=110
abbrev f_zz78:FuncId:=111
abbrev f_zz106:FuncId:=112
abbrev f_zz91:FuncId:=113
abbrev f_zz15:FuncId:=114
abbrev f_zz9:FuncId:=115
abbrev f_zz52:FuncId:=116
abbrev f_zz57:FuncId:=117
abbrev f_zz56:FuncId:=118
abbrev f_zz74:FuncId:=119
abbrev f_zz94:FuncId:=121
abbrev f_zz114:FuncId:=122
abbrev f_zz113:FuncId:=123
abbrev f_zz75:FuncId:=126
abbrev f_zz55:FuncId:=127
abbrev f_zz109:FuncId:=128
abbrev f_zz82:FuncId:=129
abbrev f_zz110:FuncId:=130
abbrev f_zz83:FuncId:=131
abbrev f_zz47:FuncId:=143
abbrev f_zz58:FuncId:=144
abbrev f_zz66:FuncId:=145
abbrev f_zz97:FuncId:=146
abbrev f_zz98:FuncId:=152
abbrev f_zz112:FuncId:=153
abbrev f_zz26:FuncId:=155
abbrev ynQ:=[
 aI 2 (.mv true (.c .nilP))]
abbrev yoQ:=[
 aM 3 0,
 iK 4 .lss 3 .i64 1,
 aM 5 4,
 aF 6 5 (.mv false (.t 0)),
 aF 7 5 (.bin .gtr (.t 6) (.c (.int .i64 65536))),
 iO 8 5 7]
abbrev ypQ:=[
 aI 2 (.mv true (.c .nilP))]
abbrev yqQ:=[
 aM 9 0,
 aI 10 (.gn (.mkSl 65 65 (zr 64 (.int .u8 0)++[(.bool false)])) [(.t 9),(.t 9)]),
 aI 11 (.gn .mkM []),
 aI 12 (.build [.nilS,.nilM,(.int .i64 0),(.int .i64 0),(.bool false)] [(0,1,(.t 10)),(1,1,(.t 11)),(3,1,(.c (.int .i64 (-1))))]),
 aI 13 (.gn (.box 5) [(.t 12)]),
 aN 2 13]
abbrev vVQ:ACode:=iJq ynQ (.seq (iJq yoQ (.cond (.t 8) (iJq ypQ (.ret)) (.skip))) (iJq yqQ (.ret)))
def zz111_F:AFunc:=⟨14,[.tmp 2],vVQ⟩
theorem zz111_cp:zb Tryz.prog [13] f_zz111=some zz111_F:=by kernel_rfl
abbrev vWQ:=[
 aI 2 (.mv true (.c .nilP))]
abbrev vXQ:=[
 aM 3 0,
 iK 4 .lss 3 .i64 1,
 aM 5 4,
 aF 6 5 (.mv false (.t 0)),
 aF 7 5 (.bin .gtr (.t 6) (.c (.int .i64 65536))),
 iO 8 5 7]
abbrev vYQ:=[
 aI 2 (.mv true (.c .nilP))]
abbrev vZQ:=[
 aM 9 0,
 aI 10 (.gn (.mkSl 66 96 (zr 64 (.int .u8 0)++[(.bool false),.nilS])) [(.t 9),(.t 9)]),
 aI 11 (.build [.nilS,(.int .i64 0),(.int .i64 0),(.bool false)] [(0,1,(.t 10)),(2,1,(.c (.int .i64 (-1))))]),
 aI 12 (.gn (.box 4) [(.t 11)]),
 aN 2 12]
abbrev yilQ:ACode:=iJq vWQ (.seq (iJq vXQ (.cond (.t 8) (iJq vYQ (.ret)) (.skip))) (iJq vZQ (.ret)))
def zz76_F:AFunc:=⟨13,[.tmp 2],yilQ⟩
theorem zz76_cp:zb Tryz.prog [12] f_zz76=some zz76_F:=by kernel_rfl
abbrev v0Q:=[
 aM 4 0,
 aM 5 1,
 aI 6 (.mx (.t 5) (.c (.int .i64 (-1)))),
 iN 7 4,
 iD 8 3 7,
 iS 1 8 6]
abbrev yimQ:ACode:=.reg false v0Q
def zz95_F:AFunc:=⟨9,[],yimQ⟩
theorem zz95_cp:zb Tryz.prog [] f_zz95=some zz95_F:=by kernel_rfl
abbrev v1Q:=[
 aM 4 0,
 aM 5 1,
 aI 6 (.mx (.t 5) (.c (.int .i64 (-1)))),
 iN 7 4,
 iD 8 2 7,
 iS 1 8 6]
abbrev yinQ:ACode:=.reg false v1Q
def zz34_F:AFunc:=⟨9,[],yinQ⟩
theorem zz34_cp:zb Tryz.prog [] f_zz34=some zz34_F:=by kernel_rfl
-- loop 0: [0, 19]
abbrev v2Q:=[
 iI 2 .i64 0]
abbrev v3Q:=[
 aM 6 0,
 iC 7 f_zz81 [(.t 6),(.c (.int .i64 0))] 0,
 aN 3 7]
abbrev v4Q:=[
 aM 8 3,
 iK 9 .eql 8 .i64 0]
abbrev v5Q:=[
 aM 10 0,
 iU 11 f_zz89 10 0,
 aN 3 11]
abbrev v6Q:=[
 aM 12 3,
 iK 13 .neq 12 .i64 0]
abbrev v7Q:=[
 aM 14 3,
 aN 2 14]
abbrev v8Q:=[
 aM 15 0,
 iN 16 15,
 iD 17 1 16,
 iL 18 1 17,
 aI 19 (.gn .rng [(.t 18)])]
abbrev v9Q:=[
 aI 20 (.gn .nxt [(.t 19)]),
 iX 21 20 0]
abbrev uaQ:=[
 aI 22 (.gd .entry [(.t 19)]),
 iX 23 22 0,
 iX 24 22 1,
 aN 4 23,
 aN 5 24]
abbrev ubQ:=[
 aM 25 0,
 iN 26 25,
 iD 27 0 26,
 iG 28 1 27,
 aM 29 4,
 aM 30 5,
 aM 31 5,
 iZ 32 31,
 iK 33 .sub 32 .i64 1,
 iR 34 64 30 33,
 iH 35 64 34,
 aI 36 (.build (zr 64 (.int .u8 0)++[(.bool false)]) [(0,64,(.t 35))]),
 iR 37 65 28 29,
 aS (.store 65 (.t 37) (.t 36) .gp)]
abbrev yrQ:=[
 aM 38 0,
 iN 39 38,
 iD 40 1 39,
 iL 41 1 40,
 aM 42 4,
 aS (.gd (.mdel [.i]) [(.t 41),(.t 42)])]
abbrev ucQ:ACode:=iJq v9Q (.seq (.cond (.t 21) (.skip) (.exit 0)) (.block 1 (iJq uaQ (.seq (.reg true ubQ) (.reg false yrQ)))))
abbrev ysQ:=[
 iI 2 .i64 0]
abbrev yioQ:ACode:=iJq v2Q (iJq v3Q (.seq (iJq v4Q (.cond (.t 9) (.reg false v5Q) (.skip))) (.seq (iJq v6Q (.cond (.t 13) (iJq v7Q (.ret)) (.skip))) (.seq (iJq v8Q (.block 0 (.loop ucQ))) (iJq ysQ (.ret))))))
def zz88_F:AFunc:=⟨43,[.tmp 2],yioQ⟩
theorem zz88_cp:zb Tryz.prog [] f_zz88=some zz88_F:=by kernel_rfl
-- loop 0: [0, 4]
abbrev udQ:=[
 iI 2 .i64 0]
abbrev ueQ:=[
 aM 6 0,
 iN 7 6,
 iD 8 3 7,
 iL 9 1 8]
abbrev ufQ:=[
 iI 2 .i64 12]
abbrev ugQ:=[
 aM 10 0,
 iU 11 f_zz29 10 0,
 aN 3 11]
abbrev uhQ:=[
 aM 12 3,
 iT 13 12]
abbrev uiQ:=[
 iI 2 .i64 12]
abbrev ujQ:=[
 iI 4 .i64 0]
abbrev ukQ:=[
 aM 14 4,
 aM 15 0,
 iN 16 15,
 iD 17 0 16,
 iL 18 1 17,
 iZ 19 18,
 iB 20 .lss 14 19]
abbrev ulQ:=[
 aM 23 0,
 iN 24 23,
 iD 25 0 24,
 iL 26 1 25,
 aM 27 4,
 iR 28 66 26 27,
 iD 29 65 28,
 iL 30 1 29,
 iZ 31 30,
 aN 5 31]
abbrev umQ:=[
 aM 32 5,
 iK 33 .gtr 32 .i64 0]
abbrev ytQ:=[
 aM 34 0,
 iN 35 34,
 iD 36 0 35,
 iG 37 1 36,
 aM 38 4,
 aM 39 0,
 iN 40 39,
 iD 41 0 40,
 iG 42 1 41,
 aM 43 4,
 iR 44 66 42 43,
 iD 45 65 44,
 iG 46 1 45,
 aM 47 5,
 iK 48 .sub 47 .i64 1,
 iR 49 64 46 48,
 iH 50 64 49,
 aI 51 (.build (zr 64 (.int .u8 0)++[(.bool false),.nilS]) [(0,64,(.t 50))]),
 iR 52 66 37 38,
 aS (.store 66 (.t 52) (.t 51) .gp)]
abbrev yuQ:=[
 aM 21 4,
 iK 22 .add 21 .i64 1,
 aN 4 22]
abbrev unQ:ACode:=.seq (iJq ukQ (.cond (.t 20) (.skip) (.exit 0))) (.seq (.block 1 (iJq ulQ (iJq umQ (.cond (.t 33) (.reg true ytQ) (.skip))))) (.reg false yuQ))
abbrev yvQ:=[
 iI 2 .i64 0]
abbrev yipQ:ACode:=iJq udQ (.seq (iJq ueQ (.cond (.t 9) (iJq ufQ (.ret)) (.skip))) (iJq ugQ (.seq (iJq uhQ (.cond (.t 13) (iJq uiQ (.ret)) (.skip))) (.seq (iJq ujQ (.block 0 (.loop unQ))) (iJq yvQ (.ret))))))
def zz28_F:AFunc:=⟨53,[.tmp 2],yipQ⟩
theorem zz28_cp:zb Tryz.prog [] f_zz28=some zz28_F:=by kernel_rfl
abbrev uoQ:=[
 iI 4 .i64 0]
abbrev upQ:=[
 aM 6 0,
 aM 7 1,
 iV 8 f_zz81 6 7 0,
 aN 5 8]
abbrev uqQ:=[
 aM 9 5,
 iK 10 .eql 9 .i64 0]
abbrev urQ:=[
 aM 11 0,
 iN 12 11,
 iD 13 0 12,
 iL 14 1 13,
 aM 15 1,
 aI 16 (.build (zr 64 (.int .u8 0)++[(.bool false)]) [(64,1,(.c (.bool true)))]),
 iR 17 65 14 15,
 iS 65 17 16]
abbrev usQ:=[
 aM 18 5,
 aN 4 18]
abbrev yiqQ:ACode:=iJq uoQ (iJq upQ (.seq (iJq uqQ (.cond (.t 10) (.reg false urQ) (.skip))) (iJq usQ (.ret))))
def zz96_F:AFunc:=⟨19,[.tmp 4],yiqQ⟩
theorem zz96_cp:zb Tryz.prog [] f_zz96=some zz96_F:=by kernel_rfl
abbrev utQ:=[
 aI 4 (.alloc (zr 64 (.int .u8 0))),
 iI 5 .i64 0]
abbrev uuQ:=[
 aM 8 0,
 aM 9 1,
 iV 10 f_zz81 8 9 0,
 aN 6 10]
abbrev uvQ:=[
 aM 11 6,
 iK 12 .neq 11 .i64 0]
abbrev uwQ:=[
 aI 13 (.build (zr 64 (.int .u8 0)) []),
 aM 14 6,
 iS 64 4 13,
 aN 5 14]
abbrev uxQ:=[
 aM 15 0,
 iN 16 15,
 iD 17 1 16,
 iL 18 1 17,
 aM 19 1,
 aI 20 (.gd (.mlook [.i] .nilS false) [(.t 18),(.t 19)]),
 aN 7 20]
abbrev uyQ:=[
 aM 21 7,
 iZ 22 21,
 iK 23 .gtr 22 .i64 0]
abbrev uzQ:=[
 aM 24 7,
 aM 25 7,
 iZ 26 25,
 iK 27 .sub 26 .i64 1,
 iR 28 64 24 27,
 iM 29 64 28,
 iS 64 4 29,
 iI 5 .i64 0]
abbrev uAQ:=[
 aM 30 0,
 iN 31 30,
 iD 32 0 31,
 iL 33 1 32,
 aM 34 1,
 iR 35 65 33 34,
 iD 36 64 35,
 iL 37 1 36]
abbrev uBQ:=[
 aI 38 (.build (zr 64 (.int .u8 0)) []),
 iS 64 4 38,
 iI 5 .i64 14]
abbrev uCQ:=[
 aM 39 0,
 iN 40 39,
 iD 41 0 40,
 iL 42 1 41,
 aM 43 1,
 iR 44 65 42 43,
 iD 45 0 44,
 iM 46 64 45,
 iS 64 4 46,
 iI 5 .i64 0]
abbrev yirQ:ACode:=iJq utQ (.seq (iJq uuQ (iJq uvQ (.cond (.t 12) (iJq uwQ (.ret)) (.skip)))) (.seq (iJq uxQ (iJq uyQ (.cond (.t 23) (iJq uzQ (.ret)) (.skip)))) (.seq (iJq uAQ (.cond (.t 37) (iJq uBQ (.ret)) (.skip))) (iJq uCQ (.ret)))))
def zz86_F:AFunc:=⟨47,[.cell 4 true 64,.tmp 5],yirQ⟩
theorem zz86_cp:zb Tryz.prog [] f_zz86=some zz86_F:=by kernel_rfl
abbrev uDQ:=[
 iI 4 .i64 0]
abbrev uEQ:=[
 aM 6 0,
 iN 7 6,
 iD 8 4 7,
 iL 9 1 8,
 aN 5 9]
abbrev uFQ:=[
 iI 4 .i64 12]
abbrev uGQ:=[
 aM 11 1,
 iK 12 .lss 11 .i64 0,
 aM 13 12,
 aF 14 13 (.mv false (.t 1)),
 aF 15 13 (.mv false (.t 0)),
 aF 16 13 (.nilck (.t 15)),
 aF 17 13 (.faddr 0 (.t 16)),
 aF 18 13 (.load false 1 (.t 17) .any),
 aF 19 13 (.len false (.t 18)),
 aF 20 13 (.bin .geq (.t 14) (.t 19)),
 iO 21 13 20,
 aN 10 21]
abbrev uHQ:=[
 iI 4 .i64 1]
abbrev uIQ:ACode:=iJq uGQ (.cond (.t 10) (iJq uHQ (.ret)) (.skip))
abbrev uJQ:=[
 iI 4 .i64 0]
abbrev yisQ:ACode:=iJq uDQ (.seq (.block 0 (iJq uEQ (.cond (.t 5) (iJq uFQ (.ret)) (uIQ)))) (iJq uJQ (.ret)))
def zz81_F:AFunc:=⟨22,[.tmp 4],yisQ⟩
theorem zz81_cp:zb Tryz.prog [] f_zz81=some zz81_F:=by kernel_rfl
abbrev uKQ:=[
 iI 2 .i64 0]
abbrev uLQ:=[
 aM 4 0,
 iN 5 4,
 iD 6 3 5,
 iL 7 1 6,
 iK 8 .eql 7 .i64 0,
 aN 3 8]
abbrev uMQ:=[
 aM 9 0,
 iN 10 9,
 iD 11 4 10,
 aS (.store 1 (.t 11) (.c (.bool true)) .any)]
abbrev uNQ:=[
 iI 2 .i64 12]
abbrev uOQ:ACode:=iJq uMQ (iJq uNQ (.ret))
abbrev uPQ:=[
 aM 13 0,
 iN 14 13,
 iD 15 3 14,
 iL 16 1 15,
 iK 17 .gtr 16 .i64 0,
 aN 12 17]
abbrev uQQ:=[
 aM 18 0,
 iN 19 18,
 iD 20 3 19,
 iL 21 1 20,
 iK 22 .sub 21 .i64 1,
 iN 23 18,
 iD 24 3 23,
 iS 1 24 22]
abbrev uRQ:ACode:=iJq uPQ (.cond (.t 12) (.reg false uQQ) (.skip))
abbrev uSQ:=[
 aM 25 0,
 iN 26 25,
 iD 27 2 26,
 iL 28 1 27,
 iK 29 .add 28 .i64 1,
 iN 30 25,
 iD 31 2 30,
 iS 1 31 29]
abbrev uTQ:=[
 iI 2 .i64 0]
abbrev yitQ:ACode:=iJq uKQ (.seq (.block 0 (iJq uLQ (.cond (.t 3) (uOQ) (uRQ)))) (iJq uSQ (iJq uTQ (.ret))))
def zz89_F:AFunc:=⟨32,[.tmp 2],yitQ⟩
theorem zz89_cp:zb Tryz.prog [] f_zz89=some zz89_F:=by kernel_rfl
abbrev uUQ:=[
 aI 2 (.mv true (.c (.bool false)))]
abbrev uVQ:=[
 aM 3 0,
 iN 4 3,
 iD 5 2 4,
 iL 6 1 5,
 iK 7 .eql 6 .i64 0]
abbrev uWQ:=[
 aM 8 0,
 iN 9 8,
 iD 10 3 9,
 aS (.store 1 (.t 10) (.c (.bool true)) .any)]
abbrev uXQ:=[
 aI 2 (.mv true (.c (.bool false)))]
abbrev uYQ:ACode:=iJq uWQ (iJq uXQ (.ret))
abbrev uZQ:=[
 aM 11 0,
 iN 12 11,
 iD 13 2 12,
 iL 14 1 13,
 iK 15 .gtr 14 .i64 0]
abbrev u0Q:=[
 aM 16 0,
 aM 17 0,
 iN 18 17,
 iD 19 2 18,
 iL 20 1 19,
 iK 21 .sub 20 .i64 1,
 iN 22 16,
 iD 23 2 22,
 iS 1 23 21]
abbrev u1Q:=[
 aM 24 0,
 aM 25 0,
 iN 26 25,
 iD 27 1 26,
 iL 28 1 27,
 iK 29 .add 28 .i64 1,
 iN 30 24,
 iD 31 1 30,
 iS 1 31 29]
abbrev u2Q:=[
 aI 2 (.mv true (.c (.bool true)))]
abbrev yiuQ:ACode:=iJq uUQ (.seq (iJq uVQ (.cond (.t 7) (uYQ) (.skip))) (.seq (iJq uZQ (.cond (.t 15) (.reg false u0Q) (.skip))) (iJq u1Q (iJq u2Q (.ret)))))
def zz29_F:AFunc:=⟨32,[.tmp 2],yiuQ⟩
theorem zz29_cp:zb Tryz.prog [] f_zz29=some zz29_F:=by kernel_rfl
-- loop 0: [0, 1, 5, 25, 26, 27]
abbrev u3Q:=[
 aI 4 (.mv true (.c .nilP))]
abbrev u4Q:=[
 aM 9 0,
 iN 10 9,
 iD 11 0 10,
 iL 12 1 11,
 iZ 13 12,
 iU 14 f_zz111 13 0,
 aN 5 14]
abbrev u5Q:=[
 aM 15 5,
 iN 16 15,
 iD 17 0 16,
 iG 18 1 17,
 aM 19 0,
 iN 20 19,
 iD 21 0 20,
 iG 22 1 21,
 aI 23 (.copy 65 (.t 18) (.t 22))]
abbrev u6Q:=[
 aM 24 0,
 iU 25 f_zz61 24 0,
 iZ 26 25,
 aI 27 (.mv false (.c (.int .i64 0)))]
abbrev u7Q:=[
 iB 28 .lss 27 26]
abbrev u8Q:=[
 aM 29 27,
 iR 30 1 25 27,
 iL 31 1 30,
 aN 6 29,
 aN 7 31]
abbrev u9Q:=[
 iI 8 .i64 0]
abbrev yaaQ:=[
 aM 32 1,
 iZ 33 32,
 iK 34 .gtr 33 .i64 0]
abbrev yabQ:=[
 aM 35 1,
 aM 36 6,
 aM 37 1,
 iZ 38 37,
 iB 39 .rem 36 38,
 iR 40 1 35 39,
 iL 41 1 40,
 aN 8 41]
abbrev yacQ:=[
 aM 42 5,
 iN 43 42,
 iD 44 0 43,
 iG 45 1 44,
 aM 46 7,
 aM 47 0,
 iN 48 47,
 iD 49 0 48,
 iG 50 1 49,
 aM 51 7,
 iR 52 65 50 51,
 iH 53 65 52,
 aM 54 0,
 iN 55 54,
 iD 56 1 55,
 iG 57 1 56,
 aM 58 7,
 aI 59 (.gd (.mlook [.i] .nilS false) [(.t 57),(.t 58)]),
 aM 60 8,
 iW 61 f_zz108 53 59 60 1,
 iR 62 65 45 46,
 aS (.store 65 (.t 62) (.t 61) .gp)]
abbrev ywQ:=[
 iK 63 .add 27 .i64 1,
 aM 27 63]
abbrev yadQ:ACode:=iJq u7Q (.seq (.cond (.t 28) (.skip) (.exit 0)) (.seq (.block 1 (iJq u8Q (iJq u9Q (.seq (iJq yaaQ (.cond (.t 34) (.reg false yabQ) (.skip))) (.reg true yacQ))))) (.reg false ywQ)))
abbrev yxQ:=[
 aM 64 5,
 aN 4 64]
abbrev yivQ:ACode:=iJq u3Q (iJq u4Q (.seq (.reg true u5Q) (.seq (iJq u6Q (.block 0 (.loop yadQ))) (iJq yxQ (.ret)))))
def zz79_F:AFunc:=⟨65,[.tmp 4],yivQ⟩
theorem zz79_cp:zb Tryz.prog [] f_zz79=some zz79_F:=by kernel_rfl
-- loop 0: [1, 3, 4]
abbrev yaeQ:=[
 aI 1 (.box 16 (.t 0)),
 aI 2 (.mv true (.c (.str [])))]
abbrev yafQ:=[
 aI 3 (.mv true (.c .nilS))]
abbrev yagQ:=[
 iI 4 .i64 0]
abbrev yahQ:=[
 aM 5 4,
 iK 6 .lss 5 .i64 16]
abbrev yaiQ:=[
 aN 9 3,
 aM 10 4,
 iA 11 16 1 1 10,
 iL 12 1 11,
 aI 13 (.mkslice 1 1 (.int .u8 0) [(0,(.t 12))]),
 aI 14 (.append 1 1 (.t 9) (.t 13)),
 aN 3 14]
abbrev yajQ:=[
 aM 7 4,
 iK 8 .add 7 .i64 1,
 aN 4 8]
abbrev yakQ:ACode:=.seq (iJq yahQ (.cond (.t 6) (.skip) (.exit 0))) (.seq (.block 1 (.reg false yaiQ)) (.reg false yajQ))
abbrev yalQ:=[
 aM 15 3,
 aI 16 (.b2s (.t 15)),
 aN 2 16]
abbrev yiwQ:ACode:=iJq yaeQ (iJq yafQ (.seq (iJq yagQ (.block 0 (.loop yakQ))) (iJq yalQ (.ret))))
def zz65_F:AFunc:=⟨17,[.tmp 2],yiwQ⟩
theorem zz65_cp:zb Tryz.prog [] f_zz65=some zz65_F:=by kernel_rfl
abbrev yamQ:=[
 aI 4 (.alloc (zr 64 (.int .u8 0)++[(.int .i64 0)]))]
abbrev yanQ:=[
 aM 7 0,
 aM 8 1,
 iV 9 f_zz21 7 8 0,
 aN 5 9]
abbrev yaoQ:=[
 aM 10 5,
 iK 11 .neq 10 .i64 0]
abbrev yapQ:=[
 aM 12 5,
 aI 13 (.build (zr 64 (.int .u8 0)++[(.int .i64 0)]) [(64,1,(.t 12))]),
 iS 65 4 13]
abbrev yaqQ:=[
 aM 14 0,
 iN 15 14,
 iD 16 0 15,
 iL 17 1 16,
 aM 18 1,
 iR 19 66 17 18,
 iM 20 66 19,
 aI 6 (.alloc (zr 64 (.int .u8 0)++[(.bool false),.nilS])),
 iS 66 6 20]
abbrev yarQ:=[
 iD 21 65 6,
 iL 22 1 21,
 iZ 23 22,
 iK 24 .gtr 23 .i64 0]
abbrev yasQ:=[
 iD 25 65 6,
 iL 26 1 25,
 iD 27 65 6,
 iL 28 1 27,
 iZ 29 28,
 iK 30 .sub 29 .i64 1,
 iR 31 64 26 30,
 iM 32 64 31,
 aI 33 (.build (zr 64 (.int .u8 0)++[(.int .i64 0)]) [(0,64,(.t 32))]),
 iS 65 4 33]
abbrev yatQ:=[
 iD 34 64 6,
 iL 35 1 34]
abbrev yauQ:=[
 aI 36 (.build (zr 64 (.int .u8 0)++[(.int .i64 0)]) [(64,1,(.c (.int .i64 14)))]),
 iS 65 4 36]
abbrev yavQ:=[
 iD 37 0 6,
 iM 38 64 37,
 aI 39 (.build (zr 64 (.int .u8 0)++[(.int .i64 0)]) [(0,64,(.t 38))]),
 iS 65 4 39]
abbrev yixQ:ACode:=iJq yamQ (iJq yanQ (.seq (iJq yaoQ (.cond (.t 11) (iJq yapQ (.ret)) (.skip))) (iJq yaqQ (.seq (iJq yarQ (.cond (.t 24) (iJq yasQ (.ret)) (.skip))) (.seq (iJq yatQ (.cond (.t 35) (iJq yauQ (.ret)) (.skip))) (iJq yavQ (.ret)))))))
def zz27_F:AFunc:=⟨40,[.cell 4 true 65],yixQ⟩
theorem zz27_cp:zb Tryz.prog [] f_zz27=some zz27_F:=by kernel_rfl
abbrev yawQ:=[
 iI 2 .i64 0]
abbrev yaxQ:=[
 aM 3 0,
 iN 4 3,
 iD 5 0 4,
 iL 6 1 5,
 iZ 7 6,
 aN 2 7]
abbrev yiyQ:ACode:=iJq yawQ (iJq yaxQ (.ret))
def zz87_F:AFunc:=⟨8,[.tmp 2],yiyQ⟩
theorem zz87_cp:zb Tryz.prog [] f_zz87=some zz87_F:=by kernel_rfl
abbrev yayQ:=[
 aI 2 (.mv true (.c (.bool false)))]
abbrev yazQ:=[
 aM 3 0,
 iN 4 3,
 iD 5 4 4,
 iL 6 1 5,
 aN 2 6]
abbrev yizQ:ACode:=iJq yayQ (iJq yazQ (.ret))
def zz85_F:AFunc:=⟨7,[.tmp 2],yizQ⟩
theorem zz85_cp:zb Tryz.prog [] f_zz85=some zz85_F:=by kernel_rfl
abbrev yaAQ:=[
 aI 5 (.box 64 (.t 2)),
 iI 6 .i64 0]
abbrev yaBQ:=[
 aM 8 0,
 aM 9 1,
 iV 10 f_zz81 8 9 0,
 aN 7 10]
abbrev yaCQ:=[
 aM 11 7,
 iK 12 .eql 11 .i64 0]
abbrev yaDQ:=[
 aM 13 0,
 iU 14 f_zz89 13 0,
 aN 7 14]
abbrev yaEQ:=[
 aM 15 7,
 iK 16 .eql 15 .i64 0]
abbrev yaFQ:=[
 aM 17 0,
 iN 18 17,
 iD 19 1 18,
 iG 20 1 19,
 aM 21 1,
 aM 22 0,
 iN 23 22,
 iD 24 1 23,
 iG 25 1 24,
 aM 26 1,
 aI 27 (.gd (.mlook [.i] .nilS false) [(.t 25),(.t 26)]),
 iQ 28 64 5 5,
 aI 29 (.mkslice 64 1 (.agg (zr 64 (.int .u8 0))) [(0,(.t 28))]),
 aI 30 (.kp [(.ld false 1 (.t 19))] (.appG 64 64 (zr 64 (.int .u8 0)) (.t 27) (.t 29))),
 aS (.gd (.mset [.i]) [(.t 20),(.t 21),(.t 30)])]
abbrev yaGQ:=[
 aM 31 7,
 aN 6 31]
abbrev yiAQ:ACode:=iJq yaAQ (iJq yaBQ (.seq (iJq yaCQ (.cond (.t 12) (.reg false yaDQ) (.skip))) (.seq (iJq yaEQ (.cond (.t 16) (.reg true yaFQ) (.skip))) (iJq yaGQ (.ret)))))
def zz80_F:AFunc:=⟨32,[.tmp 6],yiAQ⟩
theorem zz80_cp:zb Tryz.prog [30] f_zz80=some zz80_F:=by kernel_rfl
abbrev yaHQ:=[
 aI 5 (.box 64 (.t 2)),
 iI 6 .i64 0]
abbrev yaIQ:=[
 aM 9 0,
 aM 10 1,
 iV 11 f_zz21 9 10 0,
 aN 7 11]
abbrev yaJQ:=[
 aM 12 7,
 iK 13 .neq 12 .i64 0]
abbrev yaKQ:=[
 aM 14 7,
 aN 6 14]
abbrev yaLQ:=[
 aM 15 0,
 iU 16 f_zz29 15 0,
 aN 8 16]
abbrev yaMQ:=[
 aM 17 8,
 iT 18 17]
abbrev yaNQ:=[
 iI 6 .i64 12]
abbrev yaOQ:=[
 aM 19 0,
 iN 20 19,
 iD 21 0 20,
 iG 22 1 21,
 aM 23 1,
 aI 24 (.mkslice 64 0 (.agg (zr 64 (.int .u8 0))) []),
 aM 25 0,
 iN 26 25,
 iD 27 0 26,
 iG 28 1 27,
 aM 29 1,
 iR 30 66 28 29,
 iD 31 65 30,
 iG 32 1 31,
 aI 33 (.append 64 64 (.t 24) (.t 32)),
 iQ 34 64 5 5,
 aI 35 (.mkslice 64 1 (.agg (zr 64 (.int .u8 0))) [(0,(.t 34))]),
 aI 36 (.append 64 64 (.t 33) (.t 35)),
 iR 37 66 22 23,
 iD 38 65 37,
 aS (.store 1 (.t 38) (.t 36) .gp)]
abbrev yaPQ:=[
 iI 6 .i64 0]
abbrev yiBQ:ACode:=iJq yaHQ (iJq yaIQ (.seq (iJq yaJQ (.cond (.t 13) (iJq yaKQ (.ret)) (.skip))) (iJq yaLQ (.seq (iJq yaMQ (.cond (.t 18) (iJq yaNQ (.ret)) (.skip))) (.seq (.reg true yaOQ) (iJq yaPQ (.ret)))))))
def zz20_F:AFunc:=⟨39,[.tmp 6],yiBQ⟩
theorem zz20_cp:zb Tryz.prog [] f_zz20=some zz20_F:=by kernel_rfl
-- loop 0: [3, 9]
abbrev yaQQ:=[
 aI 2 (.mv true (.c .nilS))]
abbrev yaRQ:=[
 aI 3 (.mv true (.c .nilS))]
abbrev yaSQ:=[
 aM 5 0,
 iN 6 5,
 iD 7 1 6,
 iL 8 1 7,
 aI 9 (.gn .rng [(.t 8)])]
abbrev yaTQ:=[
 aI 10 (.gn .nxt [(.t 9)]),
 iX 11 10 0]
abbrev yaUQ:=[
 aI 12 (.gd .entry [(.t 9)]),
 iX 13 12 0,
 aN 4 13]
abbrev yaVQ:=[
 aN 14 3,
 aM 15 4,
 aI 16 (.mkslice 1 1 (.int .i64 0) [(0,(.t 15))]),
 aI 17 (.appG 1 8 [(.int .i64 0)] (.t 14) (.t 16)),
 aN 3 17]
abbrev yaWQ:ACode:=iJq yaTQ (.seq (.cond (.t 11) (.skip) (.exit 0)) (.block 1 (iJq yaUQ (.reg false yaVQ))))
abbrev yaXQ:=[
 aM 18 3,
 iU 19 f_zz52 18 0]
abbrev yaYQ:=[
 aM 20 3,
 aN 2 20]
abbrev yiCQ:ACode:=iJq yaQQ (iJq yaRQ (.seq (iJq yaSQ (.block 0 (.loop yaWQ))) (iJq yaXQ (iJq yaYQ (.ret)))))
def zz61_F:AFunc:=⟨21,[.tmp 2],yiCQ⟩
theorem zz61_cp:zb Tryz.prog [17] f_zz61=some zz61_F:=by kernel_rfl
abbrev yyQ:=[
 aI 3 (.box 65 (.t 0)),
 aI 6 (.alloc (zr 64 (.int .u8 0)++[(.bool false)]))]
abbrev yzQ:=[
 aM 11 1,
 iZ 12 11,
 aN 7 12]
abbrev yAQ:=[
 aM 13 2,
 aM 14 7,
 iK 15 .add 14 .i64 3,
 iB 16 .rem 13 15,
 aM 17 7,
 iB 18 .add 16 17,
 iK 19 .add 18 .i64 3,
 aM 20 7,
 iK 21 .add 20 .i64 3,
 iB 22 .rem 19 21,
 aN 8 22]
abbrev yBQ:=[
 aM 24 8,
 iK 25 .eql 24 .i64 0,
 aN 23 25]
abbrev yCQ:=[
 iM 26 65 3,
 iS 65 6 26]
abbrev yDQ:=[
 aM 28 8,
 aM 29 7,
 iB 30 .leq 28 29,
 aN 27 30]
abbrev yEQ:=[
 aM 31 1,
 aM 32 8,
 iK 33 .sub 32 .i64 1,
 iR 34 64 31 33,
 iM 35 64 34,
 aI 36 (.build (zr 64 (.int .u8 0)++[(.bool false)]) [(0,64,(.t 35))]),
 iS 65 6 36]
abbrev yFQ:=[
 aM 38 8,
 aM 39 7,
 iK 40 .add 39 .i64 1,
 iB 41 .eql 38 40,
 aN 37 41]
abbrev yGQ:=[
 aI 42 (.build (zr 64 (.int .u8 0)++[(.bool false)]) [(64,1,(.c (.bool true)))]),
 iS 65 6 42]
abbrev yHQ:ACode:=iJq yFQ (.cond (.t 37) (iJq yGQ (.ret)) (.skip))
abbrev yIQ:ACode:=iJq yDQ (.cond (.t 27) (iJq yEQ (.ret)) (yHQ))
abbrev yJQ:=[
 iD 43 0 3,
 iQ 44 64 43 3,
 aM 45 1,
 aM 46 7,
 iK 47 .sub 46 .i64 1,
 iR 48 64 45 47,
 iH 49 64 48,
 aI 9 (.gn (.alloc (zr 64 (.int .u8 0))) []),
 aI 10 (.gn (.alloc (zr 64 (.int .u8 0))) []),
 aS (.store 64 (.t 9) (.t 44) .gp),
 aS (.store 64 (.t 10) (.t 49) .gp)]
abbrev yaQ:=[
 aM 50 7,
 iK 51 .gtr 50 .i64 1]
abbrev ybQ:=[
 aM 52 1,
 aM 53 7,
 iK 54 .sub 53 .i64 2,
 iR 55 64 52 54,
 iM 56 64 55,
 iS 64 9 56]
abbrev ycQ:=[
 iM 57 64 9,
 iM 58 64 10,
 aI 59 (.eqs false (kr 64 .i) (.t 57) (.t 58))]
abbrev ydQ:=[
 iM 60 64 10,
 aI 61 (.build (zr 64 (.int .u8 0)++[(.bool false)]) [(0,64,(.t 60))]),
 iS 65 6 61]
abbrev yeQ:=[
 aI 62 (.gd (.arrS 1 64 true false false) [(.t 10),(.c (.int .i64 32))]),
 aI 63 (.gd (.arrS 1 64 true false false) [(.t 9),(.c (.int .i64 32))]),
 aI 64 (.copy 1 (.t 62) (.t 63))]
abbrev yfQ:=[
 iM 65 64 10,
 aI 66 (.build (zr 64 (.int .u8 0)++[(.bool false)]) [(0,64,(.t 65))]),
 iS 65 6 66]
abbrev yaZQ:ACode:=iJq yyQ (iJq yzQ (.seq (iJq yAQ (.block 0 (iJq yBQ (.cond (.t 23) (iJq yCQ (.ret)) (yIQ))))) (.seq (.reg true yJQ) (.seq (iJq yaQ (.cond (.t 51) (.reg false ybQ) (.skip))) (.seq (iJq ycQ (.cond (.t 59) (iJq ydQ (.ret)) (.skip))) (.seq (.reg true yeQ) (iJq yfQ (.ret))))))))
def zz108_F:AFunc:=⟨67,[.cell 6 true 65],yaZQ⟩
theorem zz108_cp:zb Tryz.prog [9,10] f_zz108=some zz108_F:=by kernel_rfl
abbrev ya0Q:=[
 aI 4 (.alloc (zr 16 (.int .u8 0)))]
abbrev ya1Q:=[
 aM 5 0,
 aM 6 1,
 iV 7 f_zz56 5 6 0,
 iU 8 f_zz57 7 0,
 iS 16 4 8]
abbrev yiDQ:ACode:=iJq ya0Q (iJq ya1Q (.ret))
def zz84_F:AFunc:=⟨9,[.cell 4 true 16],yiDQ⟩
theorem zz84_cp:zb Tryz.prog [] f_zz84=some zz84_F:=by kernel_rfl
abbrev ya2Q:=[
 iI 4 .i64 0]
abbrev ya3Q:=[
 aM 5 0,
 iN 6 5,
 iD 7 3 6,
 iL 8 1 7]
abbrev ya4Q:=[
 iI 4 .i64 12]
abbrev ya5Q:=[
 aM 9 1,
 iK 10 .lss 9 .i64 0,
 aM 11 10,
 aF 12 11 (.mv false (.t 1)),
 aF 13 11 (.mv false (.t 0)),
 aF 14 11 (.nilck (.t 13)),
 aF 15 11 (.faddr 0 (.t 14)),
 aF 16 11 (.load false 1 (.t 15) .any),
 aF 17 11 (.len false (.t 16)),
 aF 18 11 (.bin .geq (.t 12) (.t 17)),
 iO 19 11 18]
abbrev ya6Q:=[
 iI 4 .i64 1]
abbrev ya7Q:=[
 iI 4 .i64 0]
abbrev yiEQ:ACode:=iJq ya2Q (.seq (iJq ya3Q (.cond (.t 8) (iJq ya4Q (.ret)) (.skip))) (.seq (iJq ya5Q (.cond (.t 19) (iJq ya6Q (.ret)) (.skip))) (iJq ya7Q (.ret))))
def zz21_F:AFunc:=⟨20,[.tmp 4],yiEQ⟩
theorem zz21_cp:zb Tryz.prog [] f_zz21=some zz21_F:=by kernel_rfl
-- loop 0: [3, 6, 7, 8]
abbrev yKQ:=[
 iI 2 .i64 0]
abbrev yLQ:=[
 iI 3 .i64 0]
abbrev yMQ:=[
 aM 6 0,
 iZ 7 6,
 aI 8 (.mv false (.c (.int .i64 0)))]
abbrev yNQ:=[
 iB 9 .lss 8 7]
abbrev yOQ:=[
 iR 10 1 6 8,
 iL 11 1 10,
 aN 5 11]
abbrev yPQ:=[
 aM 12 5,
 aM 13 3,
 iB 14 .neq 12 13]
abbrev yQQ:=[
 aM 15 5,
 aN 2 15]
abbrev yRQ:=[
 iK 16 .add 8 .i64 1,
 aM 8 16]
abbrev ySQ:ACode:=iJq yNQ (.seq (.cond (.t 9) (.skip) (.exit 0)) (.seq (.block 1 (iJq yOQ (iJq yPQ (.cond (.t 14) (iJq yQQ (.ret)) (.skip))))) (.reg false yRQ)))
abbrev yTQ:=[
 aM 17 3,
 aN 2 17]
abbrev ya8Q:ACode:=iJq yKQ (iJq yLQ (.seq (iJq yMQ (.block 0 (.loop ySQ))) (iJq yTQ (.ret))))
def zz107_F:AFunc:=⟨18,[.tmp 2],ya8Q⟩
theorem zz107_cp:zb Tryz.prog [] f_zz107=some zz107_F:=by kernel_rfl
abbrev ya9Q:=[
 iI 4 .i64 0]
abbrev ybaQ:=[
 aM 7 0,
 iU 8 f_zz94 7 0,
 aN 5 8]
abbrev ybbQ:=[
 aM 9 1,
 iU 10 f_zz94 9 0,
 aN 6 10]
abbrev ybcQ:=[
 aM 11 5]
abbrev ybdQ:=[
 aM 12 6]
abbrev ybeQ:=[
 iI 4 .i64 0]
abbrev ybfQ:=[
 aI 4 (.mv true (.c (.int .i64 (-1))))]
abbrev ybgQ:ACode:=.seq (iJq ybdQ (.cond (.t 12) (iJq ybeQ (.ret)) (.skip))) (iJq ybfQ (.ret))
abbrev ybhQ:=[
 aM 13 6]
abbrev ybiQ:=[
 iI 4 .i64 1]
abbrev ybjQ:=[
 aM 14 0,
 aM 15 1,
 iB 16 .lss 14 15]
abbrev yUQ:=[
 aI 4 (.mv true (.c (.int .i64 (-1))))]
abbrev yVQ:=[
 aM 17 0,
 aM 18 1,
 iB 19 .gtr 17 18]
abbrev yWQ:=[
 iI 4 .i64 1]
abbrev yXQ:=[
 iI 4 .i64 0]
abbrev yiFQ:ACode:=iJq ya9Q (iJq ybaQ (iJq ybbQ (.seq (iJq ybcQ (.cond (.t 11) (ybgQ) (.skip))) (.seq (iJq ybhQ (.cond (.t 13) (iJq ybiQ (.ret)) (.skip))) (.seq (iJq ybjQ (.cond (.t 16) (iJq yUQ (.ret)) (.skip))) (.seq (iJq yVQ (.cond (.t 19) (iJq yWQ (.ret)) (.skip))) (iJq yXQ (.ret))))))))
def zz78_F:AFunc:=⟨20,[.tmp 4],yiFQ⟩
theorem zz78_cp:zb Tryz.prog [] f_zz78=some zz78_F:=by kernel_rfl
-- loop 0: [2, 3, 4, 5]
abbrev ybkQ:=[
 aI 2 (.alloc (zr 16 (.int .u8 0)))]
abbrev yblQ:=[
 aM 6 0,
 iU 7 f_zz75 6 0,
 aI 3 (.alloc (zr 32 (.int .u8 0))),
 iS 32 3 7]
abbrev ybmQ:=[
 aI 8 (.build (zr 16 (.int .u8 0)) []),
 aI 4 (.alloc (zr 16 (.int .u8 0))),
 iS 16 4 8]
abbrev ybnQ:=[
 iI 5 .i64 0]
abbrev yboQ:=[
 aM 9 5,
 iK 10 .lss 9 .i64 16]
abbrev ybpQ:=[
 aM 13 5,
 aM 14 5,
 iA 15 32 1 3 14,
 iL 16 1 15,
 iA 17 16 1 4 13,
 iS 1 17 16]
abbrev ybqQ:=[
 aM 11 5,
 iK 12 .add 11 .i64 1,
 aN 5 12]
abbrev ybrQ:ACode:=.seq (iJq yboQ (.cond (.t 10) (.skip) (.exit 0))) (.seq (.block 1 (.reg false ybpQ)) (.reg false ybqQ))
abbrev ybsQ:=[
 iM 18 16 4,
 iS 16 2 18]
abbrev yiGQ:ACode:=iJq ybkQ (iJq yblQ (iJq ybmQ (.seq (iJq ybnQ (.block 0 (.loop ybrQ))) (iJq ybsQ (.ret)))))
def zz57_F:AFunc:=⟨19,[.cell 2 true 16],yiGQ⟩
theorem zz57_cp:zb Tryz.prog [] f_zz57=some zz57_F:=by kernel_rfl
-- loop 0: [1, 5, 6]
abbrev ybtQ:=[
 aI 4 (.mv true (.c .nilS))]
abbrev ybuQ:=[
 aM 7 0,
 aI 8 (.conv .u8 (.t 7)),
 aI 9 (.mkslice 1 1 (.int .u8 0) [(0,(.t 8))]),
 aN 5 9]
abbrev ybvQ:=[
 iI 6 .i64 0]
abbrev ybwQ:=[
 aM 10 6,
 aM 11 1,
 iZ 12 11,
 iB 13 .lss 10 12]
abbrev ybxQ:=[
 aN 16 5,
 aM 17 1,
 aM 18 6,
 iR 19 1 17 18,
 iL 20 1 19,
 iU 21 f_zz55 20 0,
 aI 22 (.append 1 1 (.t 16) (.t 21)),
 aN 5 22]
abbrev ybyQ:=[
 aM 14 6,
 iK 15 .add 14 .i64 1,
 aN 6 15]
abbrev ybzQ:ACode:=.seq (iJq ybwQ (.cond (.t 13) (.skip) (.exit 0))) (.seq (.block 1 (.reg false ybxQ)) (.reg false ybyQ))
abbrev ybAQ:=[
 aM 23 5,
 aN 4 23]
abbrev yiHQ:ACode:=iJq ybtQ (iJq ybuQ (.seq (iJq ybvQ (.block 0 (.loop ybzQ))) (iJq ybAQ (.ret))))
def zz56_F:AFunc:=⟨24,[.tmp 4],yiHQ⟩
theorem zz56_cp:zb Tryz.prog [] f_zz56=some zz56_F:=by kernel_rfl
-- loop 0: [3, 4]
abbrev ybBQ:=[
 aI 2 (.mv true (.c .nilS))]
abbrev ybCQ:=[
 aM 5 0,
 aI 6 (.conv .u64 (.t 5)),
 iK 7 .mul 6 .u64 2,
 aN 3 7]
abbrev ybDQ:=[
 aM 8 0,
 iK 9 .lss 8 .i64 0]
abbrev ybEQ:=[
 aM 10 0,
 aI 11 (.bin .sub (.c (.int .i64 (-1))) (.t 10)),
 aI 12 (.conv .u64 (.t 11)),
 iK 13 .mul 12 .u64 2,
 iK 14 .add 13 .u64 1,
 aN 3 14]
abbrev ybFQ:=[
 aI 4 (.mv true (.c .nilS))]
abbrev ybGQ:=[
 aM 15 3,
 iK 16 .geq 15 .u64 128]
abbrev ybHQ:=[
 aN 17 4,
 aM 18 3,
 iK 19 .rem 18 .u64 128,
 aI 20 (.conv .u8 (.t 19)),
 iK 21 .add 20 .u8 128,
 aI 22 (.mkslice 1 1 (.int .u8 0) [(0,(.t 21))]),
 aI 23 (.appG 1 1 [(.int .u8 0)] (.t 17) (.t 22)),
 aN 4 23]
abbrev ybIQ:=[
 aM 24 3,
 iK 25 .quo 24 .u64 128,
 aN 3 25]
abbrev ybJQ:ACode:=.seq (iJq ybGQ (.cond (.t 16) (.skip) (.exit 0))) (.block 1 (iJq ybHQ (.reg false ybIQ)))
abbrev ybKQ:=[
 aN 26 4,
 aM 27 3,
 aI 28 (.conv .u8 (.t 27)),
 aI 29 (.mkslice 1 1 (.int .u8 0) [(0,(.t 28))]),
 aI 30 (.appG 1 1 [(.int .u8 0)] (.t 26) (.t 29)),
 aN 2 30]
abbrev yiIQ:ACode:=iJq ybBQ (iJq ybCQ (.seq (iJq ybDQ (.cond (.t 9) (.reg false ybEQ) (.skip))) (iJq ybFQ (.seq (.block 0 (.loop ybJQ)) (iJq ybKQ (.ret))))))
def zz74_F:AFunc:=⟨31,[.tmp 2],yiIQ⟩
theorem zz74_cp:zb Tryz.prog [23,30] f_zz74=some zz74_F:=by kernel_rfl
abbrev ybLQ:=[
 aI 2 (.mv true (.c (.bool false)))]
abbrev ybMQ:=[
 aM 3 0,
 aM 4 0,
 iB 5 .neq 3 4,
 aN 2 5]
abbrev yiJQ:ACode:=iJq ybLQ (iJq ybMQ (.ret))
def zz94_F:AFunc:=⟨6,[.tmp 2],yiJQ⟩
theorem zz94_cp:zb Tryz.prog [] f_zz94=some zz94_F:=by kernel_rfl
-- loop 0: [4, 5, 15, 16, 17]
abbrev yYQ:=[
 aI 4 (.alloc (zr 16 (.int .u8 0)))]
abbrev yZQ:=[
 aM 10 0,
 aI 11 (.conv .u8 (.t 10)),
 aI 12 (.mkslice 1 1 (.int .u8 0) [(0,(.t 11))]),
 aI 13 (.b2s (.t 12)),
 aI 5 (.alloc (zr 8 (.int .u32 0)++zr 64 (.int .u8 0)++[(.int .u64 0)])),
 iC 9 f_zz109 [] 2,
 iV 14 f_zz82 9 13 2,
 aS (.store 73 (.t 5) (.t 14) (.site 5))]
abbrev y0Q:=[
 aM 15 1,
 iZ 16 15,
 aI 17 (.mv false (.c (.int .i64 0)))]
abbrev y1Q:=[
 iB 18 .lss 17 16]
abbrev y2Q:=[
 iR 19 1 15 17,
 iL 20 1 19,
 aN 7 20]
abbrev y3Q:=[
 iQ 21 73 5 5,
 aM 22 7,
 iU 23 f_zz110 22 2,
 aI 24 (.b2s (.t 23)),
 iV 25 f_zz82 21 24 2,
 aS (.store 73 (.t 5) (.t 25) (.site 5))]
abbrev y4Q:=[
 iK 26 .add 17 .i64 1,
 aM 17 26]
abbrev y5Q:ACode:=iJq y1Q (.seq (.cond (.t 18) (.skip) (.exit 0)) (.seq (.block 1 (iJq y2Q (.reg true y3Q))) (.reg false y4Q)))
abbrev y6Q:=[
 iM 27 73 5,
 iU 28 f_zz83 27 0,
 aI 8 (.gn (.alloc (zr 32 (.int .u8 0))) []),
 iS 32 8 28]
abbrev y7Q:=[
 aI 29 (.gd (.arrS 1 32 false true false) [(.t 8),(.c (.int .i64 16))]),
 aI 30 (.gd (.s2a 16) [(.t 29)]),
 iM 31 16 30,
 iS 16 4 31]
abbrev ybNQ:ACode:=iJq yYQ (.seq (.reg true yZQ) (.seq (iJq y0Q (.block 0 (.loop y5Q))) (iJq y6Q (iJq y7Q (.ret)))))
def zz114_F:AFunc:=⟨32,[.cell 4 true 16],ybNQ⟩
theorem zz114_cp:zb Tryz.prog [8] f_zz114=some zz114_F:=by kernel_rfl
-- loop 0: [3, 4]
abbrev y8Q:=[
 aI 2 (.mv true (.c .nilS))]
abbrev y9Q:=[
 aM 5 0,
 aI 6 (.conv .u64 (.t 5)),
 iK 7 .shl 6 .u64 1,
 aM 8 0,
 iK 9 .shr 8 .u64 63,
 aI 10 (.conv .u64 (.t 9)),
 iB 11 .xor 7 10,
 aN 3 11]
abbrev xaQ:=[
 aI 4 (.mv true (.c .nilS))]
abbrev xbQ:=[
 aM 12 3,
 iK 13 .gtr 12 .u64 127]
abbrev xcQ:=[
 aN 16 4,
 aM 17 3,
 aI 18 (.conv .u8 (.t 17)),
 iK 19 .or 18 .u8 128,
 aI 20 (.mkslice 1 1 (.int .u8 0) [(0,(.t 19))]),
 aI 21 (.appG 1 1 [(.int .u8 0)] (.t 16) (.t 20)),
 aN 4 21]
abbrev xdQ:=[
 aM 14 3,
 iK 15 .shr 14 .u64 7,
 aN 3 15]
abbrev xeQ:ACode:=.seq (iJq xbQ (.cond (.t 13) (.skip) (.exit 0))) (.seq (.block 1 (.reg false xcQ)) (.reg false xdQ))
abbrev xfQ:=[
 aN 22 4,
 aM 23 3,
 aI 24 (.conv .u8 (.t 23)),
 aI 25 (.mkslice 1 1 (.int .u8 0) [(0,(.t 24))]),
 aI 26 (.appG 1 1 [(.int .u8 0)] (.t 22) (.t 25)),
 aN 2 26]
abbrev ybOQ:ACode:=iJq y8Q (iJq y9Q (iJq xaQ (.seq (.block 0 (.loop xeQ)) (iJq xfQ (.ret)))))
def zz113_F:AFunc:=⟨27,[.tmp 2],ybOQ⟩
theorem zz113_cp:zb Tryz.prog [21,26] f_zz113=some zz113_F:=by kernel_rfl
-- loop 0: [2, 3, 4, 5, 6, 7, 8]
-- loop 1: [2, 3, 4, 5, 7, 11]
-- loop 2: [2, 3, 4, 5]
-- loop 3: [2, 3, 12, 13]
abbrev ybPQ:=[
 aI 2 (.alloc (zr 32 (.int .u8 0)))]
abbrev ybQQ:=[
 aI 14 (.build (zr 8 (.int .u32 0)) [(0,1,(.c (.int .u32 1779033703))),(1,1,(.c (.int .u32 3144134277))),(2,1,(.c (.int .u32 1013904242))),(3,1,(.c (.int .u32 2773480762))),(4,1,(.c (.int .u32 1359893119))),(5,1,(.c (.int .u32 2600822924))),(6,1,(.c (.int .u32 528734635))),(7,1,(.c (.int .u32 1541459225)))]),
 aI 3 (.alloc (zr 8 (.int .u32 0))),
 iS 8 3 14]
abbrev ybRQ:=[
 aM 15 0,
 iU 16 f_zz47 15 0,
 aN 4 16]
abbrev ybSQ:=[
 iI 5 .i64 0]
abbrev ybTQ:=[
 aM 17 5,
 aM 18 4,
 iZ 19 18,
 iB 20 .lss 17 19]
abbrev ybUQ:=[
 aM 23 4,
 aM 24 5,
 aM 25 5,
 iK 26 .add 25 .i64 64,
 aI 27 (.sl 1 (.t 23) (some (.t 24)) (some (.t 26))),
 iU 28 f_zz58 27 0,
 aI 6 (.alloc (zr 64 (.int .u32 0))),
 iS 64 6 28]
abbrev ybVQ:=[
 iM 29 8 3,
 aI 7 (.alloc (zr 8 (.int .u32 0))),
 iS 8 7 29]
abbrev ybWQ:=[
 iI 8 .i64 0]
abbrev ybXQ:=[
 aM 30 8,
 iK 31 .lss 30 .i64 64]
abbrev ybYQ:=[
 iEq 34 8 1 7 7,
 iP 35 1 34 7,
 iEq 36 8 1 7 4,
 iP 37 1 36 7,
 iEq 39 8 1 7 4,
 iP 40 1 39 7,
 iEq 43 8 1 7 4,
 iP 44 1 43 7,
 iEq 48 8 1 7 4,
 iP 49 1 48 7,
 iEq 50 8 1 7 5,
 iP 51 1 50 7,
 iB 52 .and 49 51,
 iEq 53 8 1 7 4,
 iP 54 1 53 7,
 iK 55 .xor 54 .u32 4294967295,
 iEq 56 8 1 7 6,
 iP 57 1 56 7,
 iB 58 .and 55 57,
 iB 59 .xor 52 58,
 aM 61 8,
 aI 62 (.iaddrA 64 1 (.g 0) (.t 61)),
 iG 63 1 62,
 aM 65 8,
 iA 66 64 1 6 65,
 iP 67 1 66 6,
 iC 38 f_zz66 [(.t 37),(.c (.int .i64 6))] 1,
 iC 41 f_zz66 [(.t 40),(.c (.int .i64 11))] 1,
 iB 42 .xor 38 41,
 iC 45 f_zz66 [(.t 44),(.c (.int .i64 25))] 1,
 iB 46 .xor 42 45,
 iB 47 .add 35 46,
 iB 60 .add 47 59,
 iB 64 .add 60 63,
 iB 68 .add 64 67,
 aN 9 68]
abbrev xgQ:=[
 iEq 69 8 1 7 0,
 iP 70 1 69 7,
 iEq 72 8 1 7 0,
 iP 73 1 72 7,
 iEq 76 8 1 7 0,
 iP 77 1 76 7,
 iEq 80 8 1 7 0,
 iP 81 1 80 7,
 iEq 82 8 1 7 1,
 iP 83 1 82 7,
 iB 84 .and 81 83,
 iEq 85 8 1 7 0,
 iP 86 1 85 7,
 iEq 87 8 1 7 2,
 iP 88 1 87 7,
 iB 89 .and 86 88,
 iB 90 .xor 84 89,
 iEq 91 8 1 7 1,
 iP 92 1 91 7,
 iEq 93 8 1 7 2,
 iP 94 1 93 7,
 iB 95 .and 92 94,
 iB 96 .xor 90 95,
 iC 71 f_zz66 [(.t 70),(.c (.int .i64 2))] 2,
 iC 74 f_zz66 [(.t 73),(.c (.int .i64 13))] 2,
 iB 75 .xor 71 74,
 iC 78 f_zz66 [(.t 77),(.c (.int .i64 22))] 2,
 iB 79 .xor 75 78,
 iB 97 .add 79 96,
 aN 10 97]
abbrev xhQ:=[
 aM 98 9,
 aM 99 10,
 iB 100 .add 98 99,
 iEq 101 8 1 7 0,
 iL 102 1 101,
 iEq 103 8 1 7 1,
 iL 104 1 103,
 iEq 105 8 1 7 2,
 iL 106 1 105,
 iEq 107 8 1 7 3,
 iL 108 1 107,
 aM 109 9,
 iB 110 .add 108 109,
 iEq 111 8 1 7 4,
 iL 112 1 111,
 iEq 113 8 1 7 5,
 iL 114 1 113,
 iEq 115 8 1 7 6,
 iL 116 1 115,
 aI 117 (.build (zr 8 (.int .u32 0)) [(0,1,(.t 100)),(1,1,(.t 102)),(2,1,(.t 104)),(3,1,(.t 106)),(4,1,(.t 110)),(5,1,(.t 112)),(6,1,(.t 114)),(7,1,(.t 116))]),
 iS 8 7 117]
abbrev xiQ:=[
 aM 32 8,
 iK 33 .add 32 .i64 1,
 aN 8 33]
abbrev ybZQ:ACode:=.seq (iJq ybXQ (.cond (.t 31) (.skip) (.exit 2))) (.seq (.block 3 (.seq (.reg true ybYQ) (.seq (.reg true xgQ) (.reg false xhQ)))) (.reg false xiQ))
abbrev xjQ:=[
 iI 11 .i64 0]
abbrev xkQ:=[
 aM 118 11,
 iK 119 .lss 118 .i64 8]
abbrev xlQ:=[
 aM 122 11,
 aM 123 11,
 iA 124 8 1 3 123,
 iP 125 1 124 3,
 aM 126 11,
 iA 127 8 1 7 126,
 iP 128 1 127 7,
 iB 129 .add 125 128,
 iA 130 8 1 3 122,
 aS (.store 1 (.t 130) (.t 129) (.site 3))]
abbrev xmQ:=[
 aM 120 11,
 iK 121 .add 120 .i64 1,
 aN 11 121]
abbrev yb0Q:ACode:=.seq (iJq xkQ (.cond (.t 119) (.skip) (.exit 4))) (.seq (.block 5 (.reg true xlQ)) (.reg false xmQ))
abbrev xnQ:=[
 aM 21 5,
 iK 22 .add 21 .i64 64,
 aN 5 22]
abbrev yb1Q:ACode:=.seq (iJq ybTQ (.cond (.t 20) (.skip) (.exit 0))) (.seq (.block 1 (iJq ybUQ (iJq ybVQ (.seq (iJq ybWQ (.block 2 (.loop ybZQ))) (iJq xjQ (.block 4 (.loop yb0Q))))))) (.reg false xnQ))
abbrev xoQ:=[
 aI 12 (.alloc (zr 32 (.int .u8 0)))]
abbrev xpQ:=[
 iI 13 .i64 0]
abbrev xqQ:=[
 aM 131 13,
 iK 132 .lss 131 .i64 32]
abbrev xrQ:=[
 aM 135 13,
 aM 136 13,
 iK 137 .quo 136 .i64 4,
 iA 138 8 1 3 137,
 iL 139 1 138,
 aM 140 13,
 iK 141 .rem 140 .i64 4,
 aI 142 (.bin .mul (.c (.int .i64 8)) (.t 141)),
 aI 143 (.bin .sub (.c (.int .i64 24)) (.t 142)),
 iB 144 .shr 139 143,
 aI 145 (.conv .u8 (.t 144)),
 iA 146 32 1 12 135,
 iS 1 146 145]
abbrev xsQ:=[
 aM 133 13,
 iK 134 .add 133 .i64 1,
 aN 13 134]
abbrev yb2Q:ACode:=.seq (iJq xqQ (.cond (.t 132) (.skip) (.exit 6))) (.seq (.block 7 (.reg false xrQ)) (.reg false xsQ))
abbrev xtQ:=[
 iM 147 32 12,
 iS 32 2 147]
abbrev yiKQ:ACode:=iJq ybPQ (iJq ybQQ (iJq ybRQ (.seq (iJq ybSQ (.block 0 (.loop yb1Q))) (iJq xoQ (.seq (iJq xpQ (.block 6 (.loop yb2Q))) (iJq xtQ (.ret)))))))
def zz75_F:AFunc:=⟨148,[.cell 2 true 32],yiKQ⟩
theorem zz75_cp:zb Tryz.prog [] f_zz75=some zz75_F:=by kernel_rfl
abbrev yb3Q:=[
 aI 2 (.mv true (.c .nilS))]
abbrev yb4Q:=[
 aM 3 0,
 aI 4 (.len true (.t 3)),
 iU 5 f_zz74 4 0,
 aM 6 0,
 aI 7 (.appG 1 1 [(.int .u8 0)] (.t 5) (.t 6)),
 aN 2 7]
abbrev yiLQ:ACode:=iJq yb3Q (iJq yb4Q (.ret))
def zz55_F:AFunc:=⟨8,[.tmp 2],yiLQ⟩
theorem zz55_cp:zb Tryz.prog [7] f_zz55=some zz55_F:=by kernel_rfl
abbrev xuQ:=[
 aI 0 (.alloc (zr 8 (.int .u32 0)++zr 64 (.int .u8 0)++[(.int .u64 0)]))]
abbrev xvQ:=[
 aI 1 (.build (zr 8 (.int .u32 0)) [(0,1,(.c (.int .u32 1779033703))),(1,1,(.c (.int .u32 3144134277))),(2,1,(.c (.int .u32 1013904242))),(3,1,(.c (.int .u32 2773480762))),(4,1,(.c (.int .u32 1359893119))),(5,1,(.c (.int .u32 2600822924))),(6,1,(.c (.int .u32 528734635))),(7,1,(.c (.int .u32 1541459225)))]),
 aI 2 (.build (zr 8 (.int .u32 0)++zr 64 (.int .u8 0)++[(.int .u64 0)]) [(0,8,(.t 1))]),
 iS 73 0 2]
abbrev yb5Q:ACode:=iJq xuQ (iJq xvQ (.ret))
def zz109_F:AFunc:=⟨3,[.cell 0 true 73],yb5Q⟩
theorem zz109_cp:zb Tryz.prog [] f_zz109=some zz109_F:=by kernel_rfl
-- loop 0: [1, 2, 4]
abbrev yb6Q:=[
 aI 2 (.gn (.box 73) [(.t 0)]),
 aI 4 (.alloc (zr 8 (.int .u32 0)++zr 64 (.int .u8 0)++[(.int .u64 0)]))]
abbrev yb7Q:=[
 aM 7 1,
 aI 8 (.bin .neq (.t 7) (.c (.str [])))]
abbrev yb8Q:=[
 iD 9 72 2,
 iL 10 1 9,
 iK 11 .rem 10 .u64 64,
 aI 12 (.conv .i64 (.t 11)),
 aN 5 12]
abbrev yb9Q:=[
 iD 13 8 2,
 aM 14 5,
 aI 15 (.gd (.arrS 1 64 true false false) [(.t 13),(.t 14)]),
 aM 16 1,
 aI 17 (.gd .copyS [(.t 15),(.t 16)]),
 aN 6 17]
abbrev ycaQ:=[
 aM 18 1,
 aM 19 6,
 aI 20 (.slS (.t 18) (some (.t 19)) none),
 aN 1 20]
abbrev ycbQ:=[
 iD 21 72 2,
 iL 22 1 21,
 aM 23 6,
 aI 24 (.conv .u64 (.t 23)),
 iB 25 .add 22 24,
 iD 26 72 2,
 iS 1 26 25]
abbrev yccQ:=[
 aM 27 5,
 aM 28 6,
 iB 29 .add 27 28,
 iK 30 .eql 29 .i64 64]
abbrev ycdQ:=[
 iD 31 0 2,
 iH 32 8 31,
 iD 33 8 2,
 aI 34 (.gd (.arrS 1 64 false false false) [(.t 33)]),
 iV 35 f_zz97 32 34 1,
 iD 36 0 2,
 aS (.store 8 (.t 36) (.t 35) .gp)]
abbrev yceQ:ACode:=.seq (iJq yb7Q (.cond (.t 8) (.skip) (.exit 0))) (.block 1 (iJq yb8Q (iJq yb9Q (iJq ycaQ (iJq ycbQ (iJq yccQ (.cond (.t 30) (.reg true ycdQ) (.skip))))))))
abbrev ycfQ:=[
 iM 37 73 2,
 iS 73 4 37]
abbrev yiMQ:ACode:=iJq yb6Q (.seq (.block 0 (.loop yceQ)) (iJq ycfQ (.ret)))
def zz82_F:AFunc:=⟨38,[.cell 4 true 73],yiMQ⟩
theorem zz82_cp:zb Tryz.prog [2] f_zz82=some zz82_F:=by kernel_rfl
abbrev xwQ:=[
 aI 2 (.mv true (.c .nilS))]
abbrev xxQ:=[
 aM 3 0,
 aI 4 (.len true (.t 3)),
 iU 5 f_zz113 4 0,
 aM 6 0,
 aI 7 (.appG 1 1 [(.int .u8 0)] (.t 5) (.t 6)),
 aN 2 7]
abbrev ycgQ:ACode:=iJq xwQ (iJq xxQ (.ret))
def zz110_F:AFunc:=⟨8,[.tmp 2],ycgQ⟩
theorem zz110_cp:zb Tryz.prog [7] f_zz110=some zz110_F:=by kernel_rfl
-- loop 0: [1, 2, 3, 4]
-- loop 1: [1, 2, 3, 4, 23]
-- loop 2: [1, 2, 6, 40]
abbrev ychQ:=[
 aI 1 (.box 73 (.t 0)),
 aI 2 (.alloc (zr 32 (.int .u8 0)))]
abbrev yciQ:=[
 iD 8 72 1,
 iL 9 1 8,
 aI 10 (.bin .mul (.c (.int .u64 8)) (.t 9)),
 aN 3 10]
abbrev ycjQ:=[
 aI 11 (.mkslice 1 1 (.int .u8 0) [(0,(.c (.int .u8 128)))]),
 aN 4 11]
abbrev yckQ:=[
 iD 12 72 1,
 iL 13 1 12,
 aI 14 (.conv .i64 (.t 13)),
 aM 15 4,
 iZ 16 15,
 iB 17 .add 14 16,
 iK 18 .rem 17 .i64 64,
 iK 19 .neq 18 .i64 56]
abbrev yclQ:=[
 aN 20 4,
 aI 21 (.mkslice 1 1 (.int .u8 0) [(0,(.c (.int .u8 0)))]),
 aI 22 (.append 1 1 (.t 20) (.t 21)),
 aN 4 22]
abbrev ycmQ:ACode:=.seq (iJq yckQ (.cond (.t 19) (.skip) (.exit 0))) (.block 1 (.reg false yclQ))
abbrev ycnQ:=[
 aI 23 (.mv false (.c (.int .i64 0)))]
abbrev ycoQ:=[
 iK 24 .lss 23 .i64 8]
abbrev ycpQ:=[
 aM 25 23,
 aN 5 25]
abbrev ycqQ:=[
 aN 26 4,
 aM 27 3,
 aM 28 5,
 aI 29 (.bin .mul (.c (.int .i64 8)) (.t 28)),
 aI 30 (.bin .sub (.c (.int .i64 56)) (.t 29)),
 iB 31 .shr 27 30,
 aI 32 (.conv .u8 (.t 31)),
 aI 33 (.mkslice 1 1 (.int .u8 0) [(0,(.t 32))]),
 aI 34 (.append 1 1 (.t 26) (.t 33)),
 aN 4 34]
abbrev ycrQ:=[
 iK 35 .add 23 .i64 1,
 aM 23 35]
abbrev ycsQ:ACode:=iJq ycoQ (.seq (.cond (.t 24) (.skip) (.exit 2)) (.seq (.block 3 (iJq ycpQ (.reg false ycqQ))) (.reg false ycrQ)))
abbrev xyQ:=[
 iM 36 73 1,
 aM 37 4,
 aI 38 (.b2s (.t 37)),
 iV 39 f_zz82 36 38 0,
 iS 73 1 39]
abbrev xzQ:=[
 aI 6 (.alloc (zr 32 (.int .u8 0)))]
abbrev xAQ:=[
 aI 40 (.mv false (.c (.int .i64 0)))]
abbrev xBQ:=[
 iK 41 .lss 40 .i64 32]
abbrev xCQ:=[
 aM 42 40,
 aN 7 42]
abbrev xDQ:=[
 aM 43 7,
 aM 44 7,
 iK 45 .quo 44 .i64 4,
 iD 46 0 1,
 iA 47 8 1 46 45,
 iL 48 1 47,
 aM 49 7,
 iK 50 .rem 49 .i64 4,
 aI 51 (.bin .mul (.c (.int .i64 8)) (.t 50)),
 aI 52 (.bin .sub (.c (.int .i64 24)) (.t 51)),
 iB 53 .shr 48 52,
 aI 54 (.conv .u8 (.t 53)),
 iA 55 32 1 6 43,
 iS 1 55 54]
abbrev xEQ:=[
 iK 56 .add 40 .i64 1,
 aM 40 56]
abbrev yctQ:ACode:=iJq xBQ (.seq (.cond (.t 41) (.skip) (.exit 4)) (.seq (.block 5 (iJq xCQ (.reg false xDQ))) (.reg false xEQ)))
abbrev xFQ:=[
 iM 57 32 6,
 iS 32 2 57]
abbrev yiNQ:ACode:=iJq ychQ (iJq yciQ (iJq ycjQ (.seq (.block 0 (.loop ycmQ)) (.seq (iJq ycnQ (.block 2 (.loop ycsQ))) (iJq xyQ (iJq xzQ (.seq (iJq xAQ (.block 4 (.loop yctQ))) (iJq xFQ (.ret)))))))))
def zz83_F:AFunc:=⟨58,[.cell 2 true 32],yiNQ⟩
theorem zz83_cp:zb Tryz.prog [] f_zz83=some zz83_F:=by kernel_rfl
-- loop 0: [0, 3]
-- loop 1: [3, 4, 5]
abbrev ycuQ:=[
 aI 2 (.mv true (.c .nilS))]
abbrev ycvQ:=[
 aI 6 (.mkslice 1 0 (.int .u8 0) []),
 aM 7 0,
 aI 8 (.append 1 1 (.t 6) (.t 7)),
 aN 3 8]
abbrev ycwQ:=[
 aN 9 3,
 aI 10 (.mkslice 1 1 (.int .u8 0) [(0,(.c (.int .u8 128)))]),
 aI 11 (.append 1 1 (.t 9) (.t 10)),
 aN 3 11]
abbrev ycxQ:=[
 aM 12 3,
 iZ 13 12,
 iK 14 .rem 13 .i64 64,
 iK 15 .neq 14 .i64 56]
abbrev ycyQ:=[
 aN 16 3,
 aI 17 (.mkslice 1 1 (.int .u8 0) [(0,(.c (.int .u8 0)))]),
 aI 18 (.append 1 1 (.t 16) (.t 17)),
 aN 3 18]
abbrev yczQ:ACode:=.seq (iJq ycxQ (.cond (.t 15) (.skip) (.exit 0))) (.block 1 (.reg false ycyQ))
abbrev ycAQ:=[
 aM 19 0,
 iZ 20 19,
 aI 21 (.conv .u64 (.t 20)),
 aI 22 (.bin .mul (.c (.int .u64 8)) (.t 21)),
 aN 4 22]
abbrev ycBQ:=[
 iI 5 .i64 0]
abbrev ycCQ:=[
 aM 23 5,
 iK 24 .lss 23 .i64 8]
abbrev ycDQ:=[
 aN 27 3,
 aM 28 4,
 aM 29 5,
 aI 30 (.bin .mul (.c (.int .i64 8)) (.t 29)),
 aI 31 (.bin .sub (.c (.int .i64 56)) (.t 30)),
 iB 32 .shr 28 31,
 aI 33 (.conv .u8 (.t 32)),
 aI 34 (.mkslice 1 1 (.int .u8 0) [(0,(.t 33))]),
 aI 35 (.append 1 1 (.t 27) (.t 34)),
 aN 3 35]
abbrev ycEQ:=[
 aM 25 5,
 iK 26 .add 25 .i64 1,
 aN 5 26]
abbrev ycFQ:ACode:=.seq (iJq ycCQ (.cond (.t 24) (.skip) (.exit 2))) (.seq (.block 3 (.reg false ycDQ)) (.reg false ycEQ))
abbrev xGQ:=[
 aM 36 3,
 aN 2 36]
abbrev yiOQ:ACode:=iJq ycuQ (iJq ycvQ (iJq ycwQ (.seq (.block 0 (.loop yczQ)) (iJq ycAQ (.seq (iJq ycBQ (.block 2 (.loop ycFQ))) (iJq xGQ (.ret)))))))
def zz47_F:AFunc:=⟨37,[.tmp 2],yiOQ⟩
theorem zz47_cp:zb Tryz.prog [] f_zz47=some zz47_F:=by kernel_rfl
-- loop 0: [0, 2, 3, 4]
-- loop 1: [2, 3, 5]
abbrev ycGQ:=[
 aI 2 (.alloc (zr 64 (.int .u32 0)))]
abbrev ycHQ:=[
 aI 3 (.alloc (zr 64 (.int .u32 0)))]
abbrev ycIQ:=[
 iI 4 .i64 0]
abbrev ycJQ:=[
 aM 8 4,
 iK 9 .lss 8 .i64 16]
abbrev ycKQ:=[
 aM 12 4,
 aM 13 0,
 aM 14 4,
 aI 15 (.bin .mul (.c (.int .i64 4)) (.t 14)),
 iR 16 1 13 15,
 iG 17 1 16,
 aI 18 (.conv .u32 (.t 17)),
 iK 19 .shl 18 .u64 24,
 aM 20 0,
 aM 21 4,
 aI 22 (.bin .mul (.c (.int .i64 4)) (.t 21)),
 iK 23 .add 22 .i64 1,
 iR 24 1 20 23,
 iG 25 1 24,
 aI 26 (.conv .u32 (.t 25)),
 iK 27 .shl 26 .u64 16,
 iB 28 .or 19 27,
 aM 29 0,
 aM 30 4,
 aI 31 (.bin .mul (.c (.int .i64 4)) (.t 30)),
 iK 32 .add 31 .i64 2,
 iR 33 1 29 32,
 iG 34 1 33,
 aI 35 (.conv .u32 (.t 34)),
 iK 36 .shl 35 .u64 8,
 iB 37 .or 28 36,
 aM 38 0,
 aM 39 4,
 aI 40 (.bin .mul (.c (.int .i64 4)) (.t 39)),
 iK 41 .add 40 .i64 3,
 iR 42 1 38 41,
 iG 43 1 42,
 aI 44 (.conv .u32 (.t 43)),
 iB 45 .or 37 44,
 iA 46 64 1 3 12,
 aS (.store 1 (.t 46) (.t 45) (.site 3))]
abbrev ycLQ:=[
 aM 10 4,
 iK 11 .add 10 .i64 1,
 aN 4 11]
abbrev ycMQ:ACode:=.seq (iJq ycJQ (.cond (.t 9) (.skip) (.exit 0))) (.seq (.block 1 (.reg true ycKQ)) (.reg false ycLQ))
abbrev ycNQ:=[
 iI 5 .i64 16]
abbrev ycOQ:=[
 aM 47 5,
 iK 48 .lss 47 .i64 64]
abbrev ycPQ:=[
 aM 51 5,
 iK 52 .sub 51 .i64 15,
 iA 53 64 1 3 52,
 iP 54 1 53 3,
 aM 56 5,
 iK 57 .sub 56 .i64 15,
 iA 58 64 1 3 57,
 iP 59 1 58 3,
 aM 62 5,
 iK 63 .sub 62 .i64 15,
 iA 64 64 1 3 63,
 iP 65 1 64 3,
 iK 66 .shr 65 .u64 3,
 iC 55 f_zz66 [(.t 54),(.c (.int .i64 7))] 2,
 iC 60 f_zz66 [(.t 59),(.c (.int .i64 18))] 2,
 iB 61 .xor 55 60,
 iB 67 .xor 61 66,
 aN 6 67]
abbrev ycQQ:=[
 aM 68 5,
 iK 69 .sub 68 .i64 2,
 iA 70 64 1 3 69,
 iP 71 1 70 3,
 aM 73 5,
 iK 74 .sub 73 .i64 2,
 iA 75 64 1 3 74,
 iP 76 1 75 3,
 aM 79 5,
 iK 80 .sub 79 .i64 2,
 iA 81 64 1 3 80,
 iP 82 1 81 3,
 iK 83 .shr 82 .u64 10,
 iC 72 f_zz66 [(.t 71),(.c (.int .i64 17))] 2,
 iC 77 f_zz66 [(.t 76),(.c (.int .i64 19))] 2,
 iB 78 .xor 72 77,
 iB 84 .xor 78 83,
 aN 7 84]
abbrev xHQ:=[
 aM 85 5,
 aM 86 5,
 iK 87 .sub 86 .i64 16,
 iA 88 64 1 3 87,
 iP 89 1 88 3,
 aM 90 6,
 iB 91 .add 89 90,
 aM 92 5,
 iK 93 .sub 92 .i64 7,
 iA 94 64 1 3 93,
 iP 95 1 94 3,
 iB 96 .add 91 95,
 aM 97 7,
 iB 98 .add 96 97,
 iA 99 64 1 3 85,
 aS (.store 1 (.t 99) (.t 98) (.site 3))]
abbrev xIQ:=[
 aM 49 5,
 iK 50 .add 49 .i64 1,
 aN 5 50]
abbrev ycRQ:ACode:=.seq (iJq ycOQ (.cond (.t 48) (.skip) (.exit 2))) (.seq (.block 3 (.seq (.reg true ycPQ) (.seq (.reg true ycQQ) (.reg true xHQ)))) (.reg false xIQ))
abbrev xJQ:=[
 iM 100 64 3,
 iS 64 2 100]
abbrev yiPQ:ACode:=iJq ycGQ (iJq ycHQ (.seq (iJq ycIQ (.block 0 (.loop ycMQ))) (.seq (iJq ycNQ (.block 2 (.loop ycRQ))) (iJq xJQ (.ret)))))
def zz58_F:AFunc:=⟨101,[.cell 2 true 64],yiPQ⟩
theorem zz58_cp:zb Tryz.prog [] f_zz58=some zz58_F:=by kernel_rfl
abbrev ycSQ:=[
 iI 4 .u32 0]
abbrev ycTQ:=[
 aM 5 0,
 aM 6 1,
 iB 7 .shr 5 6,
 aM 8 0,
 aM 9 1,
 aI 10 (.bin .sub (.c (.int .i64 32)) (.t 9)),
 iB 11 .shl 8 10,
 iB 12 .or 7 11,
 aN 4 12]
abbrev yiQQ:ACode:=iJq ycSQ (.seq (.reg true ycTQ) (.ret))
def zz66_F:AFunc:=⟨13,[.tmp 4],yiQQ⟩
theorem zz66_cp:zb Tryz.prog [] f_zz66=some zz66_F:=by kernel_rfl
-- loop 0: [2, 4, 5, 6, 7, 21, 22]
-- loop 1: [2, 4, 6, 7, 94]
abbrev ycUQ:=[
 aI 2 (.gn (.box 8) [(.t 0)]),
 aI 4 (.alloc (zr 8 (.int .u32 0)))]
abbrev ycVQ:=[
 aM 13 1,
 iU 14 f_zz98 13 0,
 aI 5 (.alloc (zr 64 (.int .u32 0))),
 iS 64 5 14]
abbrev ycWQ:=[
 aI 15 (.gd (.arrS 1 8 false true false) [(.t 2),(.c (.int .i64 4))]),
 aI 16 (.gd (.s2a 4) [(.t 15)]),
 iH 17 4 16,
 aI 18 (.gd (.arrS 1 8 true false false) [(.t 2),(.c (.int .i64 4))]),
 aI 19 (.gd (.s2a 4) [(.t 18)]),
 iH 20 4 19,
 aI 6 (.alloc [(.int .u32 0),(.int .u32 0),(.int .u32 0),(.int .u32 0)]),
 aI 7 (.alloc [(.int .u32 0),(.int .u32 0),(.int .u32 0),(.int .u32 0)]),
 aS (.store 4 (.t 6) (.t 17) (.site 6)),
 aS (.store 4 (.t 7) (.t 20) (.site 7))]
abbrev ycXQ:=[
 aI 21 (.load true 64 (.g 1) .any),
 aI 22 (.mv false (.c (.int .i64 0)))]
abbrev ycYQ:=[
 iK 23 .lss 22 .i64 64]
abbrev ycZQ:=[
 aM 24 22,
 aI 25 (.idxA false 64 1 (.t 21) (.t 22)),
 aN 8 24,
 aN 9 25]
abbrev yc0Q:=[
 iEq 26 4 1 7 3,
 iP 27 1 26 7,
 iEq 28 4 1 7 0,
 iP 29 1 28 7,
 iEq 32 4 1 7 0,
 iP 33 1 32 7,
 iEq 34 4 1 7 1,
 iP 35 1 34 7,
 iB 36 .and 33 35,
 iEq 37 4 1 7 0,
 iP 38 1 37 7,
 aI 39 (.bin .xor (.c (.int .u32 4294967295)) (.t 38)),
 iEq 40 4 1 7 2,
 iP 41 1 40 7,
 iB 42 .and 39 41,
 iB 43 .xor 36 42,
 aM 45 9,
 aM 47 8,
 iA 48 64 1 5 47,
 iP 49 1 48 5,
 iC 30 f_zz112 [(.t 29),(.c (.int .i64 6)),(.c (.int .i64 11)),(.c (.int .i64 25))] 2,
 iB 31 .add 27 30,
 iB 44 .add 31 43,
 iB 46 .add 44 45,
 iB 50 .add 46 49,
 aN 10 50]
abbrev yc1Q:=[
 iEq 51 4 1 6 0,
 iP 52 1 51 6,
 iEq 54 4 1 6 0,
 iP 55 1 54 6,
 iEq 56 4 1 6 1,
 iP 57 1 56 6,
 iB 58 .and 55 57,
 iEq 59 4 1 6 0,
 iP 60 1 59 6,
 iEq 61 4 1 6 2,
 iP 62 1 61 6,
 iB 63 .and 60 62,
 iB 64 .xor 58 63,
 iEq 65 4 1 6 1,
 iP 66 1 65 6,
 iEq 67 4 1 6 2,
 iP 68 1 67 6,
 iB 69 .and 66 68,
 iB 70 .xor 64 69,
 iC 53 f_zz112 [(.t 52),(.c (.int .i64 2)),(.c (.int .i64 13)),(.c (.int .i64 22))] 2,
 iB 71 .add 53 70,
 aN 11 71]
abbrev yc2Q:=[
 iEq 72 4 1 6 3,
 iL 73 1 72,
 aM 74 10,
 iB 75 .add 73 74,
 iEq 76 4 1 7 0,
 iL 77 1 76,
 iEq 78 4 1 7 1,
 iL 79 1 78,
 iEq 80 4 1 7 2,
 iL 81 1 80,
 aI 82 (.build [(.int .u32 0),(.int .u32 0),(.int .u32 0),(.int .u32 0)] [(0,1,(.t 75)),(1,1,(.t 77)),(2,1,(.t 79)),(3,1,(.t 81))]),
 iS 4 7 82]
abbrev yc3Q:=[
 aM 83 10,
 aM 84 11,
 iB 85 .add 83 84,
 iEq 86 4 1 6 0,
 iL 87 1 86,
 iEq 88 4 1 6 1,
 iL 89 1 88,
 iEq 90 4 1 6 2,
 iL 91 1 90,
 aI 92 (.build [(.int .u32 0),(.int .u32 0),(.int .u32 0),(.int .u32 0)] [(0,1,(.t 85)),(1,1,(.t 87)),(2,1,(.t 89)),(3,1,(.t 91))]),
 iS 4 6 92]
abbrev xKQ:=[
 iK 93 .add 22 .i64 1,
 aM 22 93]
abbrev yc4Q:ACode:=iJq ycYQ (.seq (.cond (.t 23) (.skip) (.exit 0)) (.seq (.block 1 (iJq ycZQ (.seq (.reg true yc0Q) (.seq (.reg true yc1Q) (iJq yc2Q (.reg false yc3Q)))))) (.reg false xKQ)))
abbrev xLQ:=[
 aI 94 (.mv false (.c (.int .i64 0)))]
abbrev xMQ:=[
 iK 95 .lss 94 .i64 4]
abbrev xNQ:=[
 aM 96 94,
 aN 12 96]
abbrev xOQ:=[
 aM 97 12,
 iA 98 8 1 2 97,
 iG 99 1 98,
 aM 100 12,
 iA 101 4 1 6 100,
 iP 102 1 101 6,
 iB 103 .add 99 102,
 iA 104 8 1 2 97,
 aS (.store 1 (.t 104) (.t 103) .gp)]
abbrev xPQ:=[
 aM 105 12,
 iK 106 .add 105 .i64 4,
 iA 107 8 1 2 106,
 iG 108 1 107,
 aM 109 12,
 iA 110 4 1 7 109,
 iP 111 1 110 7,
 iB 112 .add 108 111,
 iA 113 8 1 2 106,
 aS (.store 1 (.t 113) (.t 112) .gp)]
abbrev xQQ:=[
 iK 114 .add 94 .i64 1,
 aM 94 114]
abbrev yc5Q:ACode:=iJq xMQ (.seq (.cond (.t 95) (.skip) (.exit 2)) (.seq (.block 3 (iJq xNQ (.seq (.reg true xOQ) (.reg true xPQ)))) (.reg false xQQ)))
abbrev xRQ:=[
 iM 115 8 2,
 iS 8 4 115]
abbrev yiRQ:ACode:=iJq ycUQ (iJq ycVQ (.seq (.reg true ycWQ) (.seq (iJq ycXQ (.block 0 (.loop yc4Q))) (.seq (iJq xLQ (.block 2 (.loop yc5Q))) (iJq xRQ (.ret))))))
def zz97_F:AFunc:=⟨116,[.cell 4 true 8],yiRQ⟩
theorem zz97_cp:zb Tryz.prog [2] f_zz97=some zz97_F:=by kernel_rfl
-- loop 0: [0, 2, 3, 4, 11, 22, 23, 24]
-- loop 1: [0, 2, 3, 11]
abbrev yc6Q:=[
 aI 2 (.alloc (zr 64 (.int .u32 0)))]
abbrev yc7Q:=[
 aI 3 (.alloc (zr 64 (.int .u32 0)))]
abbrev yc8Q:=[
 aI 11 (.mv false (.c (.int .i64 0)))]
abbrev yc9Q:=[
 iK 12 .lss 11 .i64 64]
abbrev ydaQ:=[
 aM 13 11,
 aN 4 13]
abbrev ydbQ:=[
 aM 14 4,
 iK 15 .lss 14 .i64 16]
abbrev ydcQ:=[
 aM 16 0,
 aM 17 4,
 aI 18 (.bin .mul (.c (.int .i64 4)) (.t 17)),
 aM 19 4,
 aI 20 (.bin .mul (.c (.int .i64 4)) (.t 19)),
 iK 21 .add 20 .i64 4,
 aI 22 (.sl 1 (.t 16) (some (.t 18)) (some (.t 21))),
 iZ 23 22,
 aI 24 (.mv false (.c (.int .i64 0)))]
abbrev yddQ:=[
 iB 25 .lss 24 23]
abbrev ydeQ:=[
 iR 26 1 22 24,
 iL 27 1 26,
 aN 6 27]
abbrev ydfQ:=[
 aM 28 4,
 aM 29 4,
 iA 30 64 1 3 29,
 iL 31 1 30,
 iK 32 .shl 31 .u64 8,
 aM 33 6,
 aI 34 (.conv .u32 (.t 33)),
 iB 35 .or 32 34,
 iA 36 64 1 3 28,
 iS 1 36 35]
abbrev xSQ:=[
 iK 37 .add 24 .i64 1,
 aM 24 37]
abbrev ydgQ:ACode:=iJq yddQ (.seq (.cond (.t 25) (.skip) (.exit 2)) (.seq (.block 3 (iJq ydeQ (.reg false ydfQ))) (.reg false xSQ)))
abbrev ydhQ:ACode:=.seq (iJq ydcQ (.block 2 (.loop ydgQ))) (.exit 1)
abbrev xTQ:=[
 aM 38 4,
 iK 39 .sub 38 .i64 15,
 iA 40 64 1 3 39,
 iP 41 1 40 3,
 aM 42 4,
 iK 43 .sub 42 .i64 2,
 iA 44 64 1 3 43,
 iP 45 1 44 3,
 aN 7 41,
 aN 8 45]
abbrev xUQ:=[
 aM 46 7,
 iC 47 f_zz26 [(.t 46),(.c (.int .i64 (-7)))] 0,
 aM 48 7,
 iC 49 f_zz26 [(.t 48),(.c (.int .i64 (-18)))] 0,
 iB 50 .xor 47 49,
 aM 51 7,
 iK 52 .shr 51 .u64 3,
 iB 53 .xor 50 52,
 aN 9 53]
abbrev xVQ:=[
 aM 54 8,
 iC 55 f_zz26 [(.t 54),(.c (.int .i64 (-17)))] 0,
 aM 56 8,
 iC 57 f_zz26 [(.t 56),(.c (.int .i64 (-19)))] 0,
 iB 58 .xor 55 57,
 aM 59 8,
 iK 60 .shr 59 .u64 10,
 iB 61 .xor 58 60,
 aN 10 61]
abbrev xWQ:=[
 aM 62 4,
 aM 63 4,
 iK 64 .sub 63 .i64 16,
 iA 65 64 1 3 64,
 iP 66 1 65 3,
 aM 67 9,
 iB 68 .add 66 67,
 aM 69 4,
 iK 70 .sub 69 .i64 7,
 iA 71 64 1 3 70,
 iP 72 1 71 3,
 iB 73 .add 68 72,
 aM 74 10,
 iB 75 .add 73 74,
 iA 76 64 1 3 62,
 aS (.store 1 (.t 76) (.t 75) (.site 3))]
abbrev xXQ:=[
 iK 77 .add 11 .i64 1,
 aM 11 77]
abbrev ydiQ:ACode:=iJq yc9Q (.seq (.cond (.t 12) (.skip) (.exit 0)) (.seq (.block 1 (iJq ydaQ (.seq (iJq ydbQ (.cond (.t 15) (ydhQ) (.skip))) (.seq (.reg true xTQ) (iJq xUQ (iJq xVQ (.reg true xWQ))))))) (.reg false xXQ)))
abbrev xYQ:=[
 iM 78 64 3,
 iS 64 2 78]
abbrev yiSQ:ACode:=iJq yc6Q (iJq yc7Q (.seq (iJq yc8Q (.block 0 (.loop ydiQ))) (iJq xYQ (.ret))))
def zz98_F:AFunc:=⟨79,[.cell 2 true 64],yiSQ⟩
theorem zz98_cp:zb Tryz.prog [] f_zz98=some zz98_F:=by kernel_rfl
abbrev xZQ:=[
 iI 8 .u32 0]
abbrev x0Q:=[
 aM 9 0,
 aM 10 1,
 aI 11 (.neg (.t 10)),
 iV 12 f_zz26 9 11 0,
 aM 13 0,
 aM 14 2,
 aI 15 (.neg (.t 14)),
 iV 16 f_zz26 13 15 0,
 iB 17 .xor 12 16,
 aM 18 0,
 aM 19 3,
 aI 20 (.neg (.t 19)),
 iV 21 f_zz26 18 20 0,
 iB 22 .xor 17 21,
 aN 8 22]
abbrev ydjQ:ACode:=iJq xZQ (iJq x0Q (.ret))
def zz112_F:AFunc:=⟨23,[.tmp 8],ydjQ⟩
theorem zz112_cp:zb Tryz.prog [] f_zz112=some zz112_F:=by kernel_rfl
abbrev ydkQ:=[
 iI 4 .u32 0]
abbrev ydlQ:=[
 aM 6 1,
 aI 7 (.conv .u64 (.t 6)),
 iK 8 .and 7 .u64 31,
 aN 5 8]
abbrev ydmQ:=[
 aM 9 0,
 aM 10 5,
 iB 11 .shl 9 10,
 aM 12 0,
 aM 13 5,
 aI 14 (.bin .sub (.c (.int .u64 32)) (.t 13)),
 iB 15 .shr 12 14,
 iB 16 .or 11 15,
 aN 4 16]
abbrev yiTQ:ACode:=iJq ydkQ (iJq ydlQ (iJq ydmQ (.ret)))
def zz26_F:AFunc:=⟨17,[.tmp 4],yiTQ⟩
theorem zz26_cp:zb Tryz.prog [] f_zz26=some zz26_F:=by kernel_rfl
theorem fol:Tryz.prog.follows .mixedOrders=true:=by kernel_rfl
