/-
 Layer 23: a journal that was formatted is zbl,appended to and rewritten,by the program,in terms of its records.
 Conditions: of each contract as it says.
-/
import Derived.Test.YtpplfpnjfjnkdaaGreatDoorJ21
import Derived.Test.YtpplfpnjfjnkdaaGreatDoorEL1
import Derived.JoinedOf
import Derived.Test.YtpplfpnjfjnkdaaGreatDoorCards
import Derived.Test.YtpplfpnjfjnkdaaGreatDoorTie
import Derived.OpenShut
import Derived.Deep.DeepHandedRow
import Derived.Lib.LaidTab
import Derived.LaidSub
set_option linter.unusedSimpArgs false
namespace Go.Proofs.YtpplfpnjfjnkdaaGreatDoor
open Go Go.E2 C22 C23 CW
set_option maxHeartbeats 4000000
theorem zaq.mono {P:Program} {f:FuncId} {xs:List D} {pre:List As} {Q Q':AV→List As→Prop} (h:zaq P f xs pre Q) (hq:∀ r post,Q r post→Q' r post):zaq P f xs pre Q':=fun R G σ hs =>
 (h R G σ hs).mono fun r _σ' _G' ⟨a,post,b,c⟩=>⟨a,post,hq r post b,c⟩
theorem zaq.frame {P:Program} {f:FuncId} {xs:List D} {pre:List As} {Q:AV→List As→Prop} (h:zaq P f xs pre Q) (F:List As):zaq P f xs (pre++F) fun r post=>∃ p0,post=p0++F∧Q r p0:=fun R G σ hs =>
 (h (F++R) G σ (by rw [← yk5Q];exact hs)).mono fun r σ' G' ⟨a,post,b,c⟩=>⟨a,post++F,⟨post,rfl,b⟩,by rw [yk5Q];exact c⟩
abbrev lkA (b0:Nat):List UInt8:=tx (mkH 1 b0 0) 48 56
abbrev lkB (s2:Nat):List UInt8:=tx (mkH 2 s2 1) 48 56
abbrev StA (d:Dk) (n:Int) (N half b0 s1:Nat) (recs:List (List UInt8)):Prop:=JT d n N half (mkH 1 b0 0) z0 (C23.XL 1 s1 0 (lkA b0) (zb8 recs)) (fun _=>z0)
abbrev StB (d:Dk) (n:Int) (N half b0 s1 s2:Nat) (old recs:List (List UInt8)):Prop:=JT d n N half (mkH 1 b0 0) (mkH 2 s2 1) (C23.XL 1 s1 0 (lkA b0) (zb8 old)) (C23.XL 2 s2 1 (lkB s2) (zb8 recs))
abbrev cA (p half ses b0 s1:Nat) (recs:List (List UInt8)) (rec:D):List D:=jC p ((0:Nat):Int) half 1 ses 0 (npL recs) (lkE 1 s1 0 (lkA b0) 0 (zb8 recs)) rec
abbrev cB (p half ses s2:Nat) (recs:List (List UInt8)) (rec:D):List D:=jC p ((0:Nat):Int) half 2 ses 1 (npL recs) (lkE 2 s2 1 (lkB s2) 0 (zb8 recs)) rec
def zul (half:Nat) (recs:List (List UInt8)) (s:List UInt8):Int:=if 1000<s.length then 1 else if half / 2 - 1<npL recs+np s then 13 else 0
def z0j (half:Nat) (recs:List (List UInt8)) (s:List UInt8):List (List UInt8):=if zul half recs s=0 then recs++[s] else recs
theorem zq5 (p j:Nat) (d:Dk) (n0:Int) (N half b0 s1:Nat) (recs:List (List UInt8)) (rec:D) (s:List UInt8) (hJ:StA d n0 N half b0 s1 recs) (hn:n0≤600000) (h8:4≤half) (hh:half≤20000) (hses:s1<4294967296) (hq:npL recs≤half / 2 - 1) (hs1:s.length≤1000000) (hrl:recs.length≤100000) :
 zaq Tryz.prog f_zz24 [.gp j 0,.str s] [zf p d,za j (cA p half s1 b0 s1 recs rec),SlA 1 rec (recs.map .str)]
  (fun r post=>∃ rec' d',r=.d (eI (zul half recs s))∧StA d' (n0+100) N half b0 s1 (z0j half recs s)∧npL (z0j half recs s)≤half / 2 - 1∧bs d'=bs d ∧
    post=[zf p d',za j (cA p half s1 b0 s1 (z0j half recs s) rec'),SlA 1 rec' ((z0j half recs s).map .str)]):=by
 have hr:=hJ.room
 have hl:=hJ.len
 have h:=zpb p j d n0 0 half 1 s1 0 (npL recs) (lkE 1 s1 0 (lkA b0) 0 (zb8 recs)) rec s recs 0 (by omega) hJ.lv hn (by omega) h8 (by omega) (.inl rfl) (zc3 _ _ (zfy _)) (by decide) hses hq hs1 hrl _ rfl
 refine zaq.mono h fun r post=>?_
 rintro ⟨rec',rfl,rfl⟩
 have hle:=zul
 by_cases c:s.length≤1000∧npL recs+np s≤half / 2 - 1
 · have hE:zul half recs s=0:=by unfold zul;rw [if_neg (by omega),if_neg (by omega)]
   have hR:z0j half recs s=recs++[s]:=if_pos hE
   have hnp:=z9g c.1
   rw [if_pos (decide_eq_true c),hR]
   have hp:=hJ.put0 (m:=pcs s) (by rw [zdp,zk4];exact c.2) (by rw [zk4];omega) h8
   rw [zdp,zk4,← zk5] at hp
   have hla:=zg5 1 s1 0 (zb8 recs) (pcs s) (lkA b0) 0
   rw [← zk5,zdp,yltQ] at hla
   have en:npL (recs++[s])=npL recs+np s:=by simp [npL]
   refine ⟨rec',_,rfl,⟨hp.lv.mono (by omega),hp.len,hp.room,hp.s0,hp.s1⟩,by omega,zyk _ _ _ _ _ _ _ _,?_⟩
   rw [← hla,← en]
 · have hE:zul half recs s≠0:=by
    unfold zul
    by_cases c1:1000<s.length
    · rw [if_pos c1];decide
    · rw [if_neg c1,if_pos (by omega)];decide
   have hR:z0j half recs s=recs:=if_neg hE
   rw [if_neg (fun h=>c (of_decide_eq_true h)),hR]
   exact ⟨rec,d,rfl,⟨hJ.lv.mono (by omega),hJ.len,hJ.room,hJ.s0,hJ.s1⟩,hq,rfl,rfl⟩
theorem zxg (p:Nat) (d:Dk) (n:Int) (half:Nat) (hhalf:half=(n / 2).toNat) (hp:za9 d 0 n=0) {b0 s1 B:Nat} {recs:List (List UInt8)} (h0:ze6 d 0 0 (half / 2 - 1) (mkH 1 b0 0) (C23.XL 1 s1 0 (lkA b0) (zb8 recs)))
 (h1:ze6 d (0+half) 1 (half / 2 - 1) z0 (fun _=>z0)) (hB:b0<B) (hs:s1<B) (hB2:B<4294967296) (hq:npL recs≤half / 2 - 1) :
 zaq Tryz.prog f_zz100 [.gp p 0,eI 0,eI n] [zf p d] (fun r post=>∃ j rec ses,ses≤B∧r=.tup [.gp j 0,eI 0]∧post=[zf p d,za j (cA p half ses b0 s1 recs rec),SlA 1 rec (recs.map .str)]):=by
 obtain ⟨hE,ses,hses,hO⟩:=opn_A hhalf hp h0 h1 hB hs hB2 hq
 refine zaq.mono (zks p d 0 n half hhalf hE) fun r post=>?_
 rintro ⟨j,rec,rfl,rfl⟩
 rw [hO]
 exact ⟨j,rec,ses,hses,rfl,rfl⟩
theorem z4r (p:Nat) (d:Dk) (n:Int) (half:Nat) (hhalf:half=(n / 2).toNat) (hp:za9 d 0 n=0) {b0 s2 B:Nat} {X0:Nat→Sec} {recs:List (List UInt8)} (h0:ze6 d 0 0 (half / 2 - 1) (mkH 1 b0 0) X0)
 (h1:ze6 d (0+half) 1 (half / 2 - 1) (mkH 2 s2 1) (C23.XL 2 s2 1 (lkB s2) (zb8 recs))) (hB:b0<B) (hX:∀ k,k<half / 2 - 1→be (tx (X0 k) 4 8)<B) (hs2:s2<B) (hB2:B<4294967296) (hq:npL recs≤half / 2 - 1) :
 zaq Tryz.prog f_zz100 [.gp p 0,eI 0,eI n] [zf p d] (fun r post=>∃ j rec ses,ses≤B∧r=.tup [.gp j 0,eI 0]∧post=[zf p d,za j (cB p half ses s2 recs rec),SlA 1 rec (recs.map .str)]):=by
 obtain ⟨hE,ses,hses,hO⟩:=opn_B hhalf hp h0 h1 hB hX hs2 hB2 hq
 refine zaq.mono (zks p d 0 n half hhalf hE) fun r post=>?_
 rintro ⟨j,rec,rfl,rfl⟩
 rw [hO]
 exact ⟨j,rec,ses,hses,rfl,rfl⟩
theorem z4s (p:Nat) (N:Nat) (n:Int) (half:Nat) (hhalf:half=(n / 2).toNat) (h8:8≤n) (hN:n≤N) (hN2:N≤65536) :
 zaq Tryz.prog f_zz90 [.gp p 0,eI 0,eI n] [zf p (fresh N)] (fun r post=>∃ d b0,r=.d (eI 0)∧b0≤1∧(∀ s1,StA d 5 N half b0 s1 [])∧post=[zf p d]):=by
 obtain ⟨e,l1,l2,b0,hb,s0,s1⟩:=zyj (N:=N) (n:=n) hhalf h8 hN hN2
 refine zaq.mono (zpa p (fresh N) 0 n (by show (0:Int)≤_;decide)) fun r post=>?_
 rintro ⟨rfl,rfl⟩
 rw [e]
 refine ⟨_,b0,rfl,hb,fun ses=>⟨l1,l2,by omega,?_,s1⟩,rfl⟩
 have ez:C23.XL 1 ses 0 (lkA b0) (zb8 [])=fun _=>z0:=by funext k;rfl
 rw [ez];exact s0
theorem JT.sides {d:Dk} {n:Int} {N half:Nat} {h0 h1:Sec} {X0 X1:Nat→Sec} (h:JT d n N half h0 h1 X0 X1) (h4:4≤half):ze6 d 0 0 (half / 2 - 1) h0 X0∧ze6 d (0+half) 1 (half / 2 - 1) h1 X1:=by
 have hr:=h.room
 have hl:=h.len
 have a:=h.s0.p h.lv (by omega) 0
 have b:=h.s1.p h.lv (by omega) 1
 have ez:((0:Nat):Int)=0:=rfl
 have e2:(0:Int)+(half:Int)=((half:Nat):Int):=by omega
 rw [ez] at a
 rw [e2]
 exact ⟨a,b⟩
theorem z9h (p j:Nat) (d:Dk) (n0:Int) (N half b0 s1 ses:Nat) (recs:List (List UInt8)) (rec:D) (l:List (List UInt8)) (hJ:StA d n0 N half b0 s1 recs) (hn:n0≤600000) (h8:4≤half) (hh:half≤20000) (hses:ses<4294967296) (hll:l.length≤1000) (hls:∀ s∈l,s.length≤100000) (_hrl:recs.length≤1000) :
 zaq Tryz.prog f_zz14 [.gp j 0,.list (l.map .str)] [zf p d,za j (cA p half ses b0 s1 recs rec),SlA 1 rec (recs.map .str)]
  (fun r post=>r=.d (eI (rwE l (half / 2 - 1) 1))∧(
    (rwE l (half / 2 - 1) 1=0∧∃ rec' d',StB d' (n0+100000) N half b0 s1 ses recs l∧Syn d'∧npL l≤half / 2 - 1∧post=[zf p d',za j (cB p half ses ses l rec'),SlA 1 rec' (l.map .str),SlA 1 rec (recs.map .str)]) ∨
    (rwE l (half / 2 - 1) 1≠0∧post=[zf p d,za j (cA p half ses b0 s1 recs rec),SlA 1 rec (recs.map .str)]))):=by
 have hr:=hJ.room
 have hl:=hJ.len
 by_cases hE:rwE l (half / 2 - 1) 1=0
 · have hE2:=hE
   unfold rwE at hE2
   have c1:¬ ∃ s∈l,1000<s.length:=fun h=>by rw [if_pos h] at hE2;cases hE2
   rw [if_neg c1] at hE2
   have c2:¬ half / 2 - 1<npL l:=fun h=>by rw [if_pos h] at hE2;cases hE2
   have hls2:∀ s∈l,s.length≤1000:=fun s hs=>by
    by_cases h:1000<s.length
    · exact absurd ⟨s,hs,h⟩ c1
    · omega
   have h:=zt2 p j d n0 0 half 1 ses 0 (npL recs) 1 (lkE 1 s1 0 (lkA b0) 0 (zb8 recs)) rec l hJ.lv hn (by omega) h8 (by omega) (.inl ⟨rfl,rfl⟩) (zc3 _ _ (zfy _)) (by decide) hses hll hls2 (by omega)
   have hp:=hJ.rw1 (g:=2) (ses:=ses) (m:=zb8 l) (by rw [zdp];omega) (by rw [zdp];omega) h8
   rw [zdp] at hp
   have e0:0+1 * half=half:=by omega
   refine zaq.mono (zaq.frame h [SlA 1 rec (recs.map .str)]) fun r post=>?_
   rintro ⟨p0,rfl,rec',rfl,rfl⟩
   have ed:rwD d 0 half 2 ses 1 l=(sy (wr2 (sy (zg4 half 2 ses 1 d (tx (mkH 2 ses 1) 48 56) 0 (zb8 l))).1 (half:Int) (mkH 2 ses 1)).1).1:=by unfold rwD;rw [e0]
   rw [← ed] at hp
   exact ⟨by rw [hE],.inl ⟨hE,rec',_,⟨hp.1.lv.mono (by omega),hp.1.len,hp.1.room,hp.1.s0,hp.1.s1⟩,hp.2,by omega,rfl⟩⟩
 · have h:=zq3 p j 0 half 1 ses 0 (npL recs) (lkE 1 s1 0 (lkA b0) 0 (zb8 recs)) rec l (by omega) h8 (by decide) hll hls hE
   intro R G σ hs
   have hs:Sep (zf p d::za j (cA p half ses b0 s1 recs rec)::SlA 1 rec (recs.map .str)::R) G:=hs
   refine (h (zf p d::SlA 1 rec (recs.map .str)::R) G σ hs.swap).mono ?_
   rintro r σ' G' ⟨rfl,post,⟨rfl,rfl⟩,hs2⟩
   have hs2:Sep (za j (cA p half ses b0 s1 recs rec)::zf p d::SlA 1 rec (recs.map .str)::R) G':=hs2
   exact ⟨rfl,_,⟨rfl,.inr ⟨hE,rfl⟩⟩,hs2.swap⟩
end Go.Proofs.YtpplfpnjfjnkdaaGreatDoor
namespace Go.Proofs.YtpplfpnjfjnkdaaGreatDoor
open Go Go.E2 C22 C23 CW
set_option maxHeartbeats 16000000
theorem z19 {d:Dk} {n:Int} {half:Nat} {h0 h1:Sec} {X0 X1:Nat→Sec} (h:JT d n 20 half h0 h1 X0 X1):za9 d 0 20=0:=z47 h.lv.live (by decide) (by rw [h.len];decide)
theorem zxh {half:Nat} {recs:List (List UInt8)} {s:List UInt8} (h:zul half recs s=0):z0j half recs s=recs++[s]:=if_pos h
theorem zq6 {G:Gh} {x y:D} (a b:List (List UInt8)) (ha:a.length≤1000000) (hb:b.length≤1000000) (hx:zvg G x (.list (a.map .str))) (hy:zvg G y (.list (b.map .str))):zld Tryz.prog f_zz68 [x,y] G (·=.d (.bool (decide (a=b)))):=fun σ =>
 (z0i a b ha hb).lend (zj9.cons hx (.cons hy .nil)) (by rintro _ rfl;rfl) σ
theorem zxi:zaq Tryz.prog f_zz46 [] [] (fun r post=>r=.d (.bool true)∧post=[]):=by
 refine zu fol zz46_cp fun R G σ hs=>?_
 have hs:Sep R G:=hs
 have hlong:=z4q 31 (by decide)
 have e2:((31:Nat):Int)=31:=rfl
 rw [e2] at hlong
 obtain ⟨z31,hz31⟩:∃ z,z=List.replicate 31 (0:UInt8):=⟨_,rfl⟩
 rw [← hz31] at hlong
 have hz:z31.length=31:=by rw [hz31];simp
 refine goS trivial ?_
 refine goR trivial ?_
 (refine goM (zwj 20 (by omega) (by omega)) ((show Sep ([]++R) G from hs)) ?_)
 rintro _ _ G1 ⟨p,rfl,rfl⟩ hs1
 have hs1:Sep (zf p (fresh 20)::R) G1:=hs1
 refine goS trivial ?_
 (refine goX trivial ?_;(repeat' (with_reducible apply Br.mk<;>intro _)))
 (refine goM (z4s p 20 20 10 (by decide) (by decide) (by decide) (by decide)) (hs1) ?_)
 rintro _ _ G2 ⟨d1,b0,rfl,hb0,hst1,rfl⟩ hs2
 have hsd:=JT.sides (hst1 0) (by decide)
 refine goS trivial ?_
 (refine goX trivial ?_;(repeat' (with_reducible apply Br.mk<;>intro _)))
 (refine goM (zxg p d1 20 10 (by decide) (z19 (hst1 0)) (b0:=b0) (s1:=0) (B:=2) (recs:=[]) hsd.1 hsd.2 (by omega) (by omega) (by decide) (by decide)) (hs2) ?_)
 rintro _ _ G3 ⟨j,rec,s1,hs1b,rfl,rfl⟩ hs3
 have hs3:Sep (zf p d1::za j (cA p 10 s1 b0 s1 [] rec)::SlA 1 rec (([]:List (List UInt8)).map .str)::R) G3:=hs3
 have hJ1:=hst1 s1
 have hroom:=(zm9 j p ((0:Nat):Int) 10 1 s1 0 (npL []) (lkE 1 s1 0 (lkA b0) 0 (zb8 [])) rec (by decide) (by decide)).q (G:=G3) (R:=zf p d1::SlA 1 rec (([]:List (List UInt8)).map .str)::R) hs3.swap
 have en:(((10:Nat):Int) / 2 - 1 - ((npL []:Nat):Int))=4:=by decide
 rw [en] at hroom
 refine goS trivial ?_
 (refine zb7 trivial (hroom) ?_;(repeat' (with_reducible apply Br.mk<;>intro _)))
 have rl:=zc3 (g:=1) (ses:=s1) (side:=0) (zb8 []) 0 (zfy (mkH 1 b0 0))
 (refine goM (zgd p j ((0:Nat):Int) 10 1 s1 0 (npL []) (lkE 1 s1 0 (lkA b0) 0 (zb8 [])) rec [] rl (by decide)) (hs3.b3) ?_)
 rintro _ _ G4 ⟨x,rfl,rfl⟩ hs4
 have hs4:Sep (SlA 1 x (([]:List (List UInt8)).map .str)::za j (cA p 10 s1 b0 s1 [] rec)::SlA 1 rec (([]:List (List UInt8)).map .str)::zf p d1::R) G4:=hs4
 have hxl:=hs4.gv.len
 have hxl:z3c false (some x)=some (.d (.int .i64 0)):=hxl
 have hs5:Sep (zf p d1::za j (cA p 10 s1 b0 s1 [] rec)::SlA 1 rec (([]:List (List UInt8)).map .str)::R) G4:=hs4.tail.perm pp
 refine goS hxl ?_
 (refine goX hxl ?_;(repeat' (with_reducible apply Br.mk<;>intro _)))
 have q1:zul 10 [] [97]=0:=by decide
 have r1:=zxh q1
 rw [List.nil_append] at r1
 (refine goM (zq5 p j d1 5 20 10 b0 s1 [] rec [97] hJ1 (by decide) (by decide) (by decide) (by omega) (by decide) (by decide) (by decide)) (hs5) ?_)
 rintro _ _ G5 ⟨rec2,d2,rfl,hJ2,-,-,rfl⟩ hs6
 rw [q1]
 rw [r1] at hJ2 hs6
 have hs6:Sep (zf p d2::za j (cA p 10 s1 b0 s1 [[97]] rec2)::SlA 1 rec2 (([[97]]:List (List UInt8)).map .str)::R) G5:=hs6
 have q2:zul 10 [[97]] z31=0:=by rw [hz31];decide
 have r2:=zxh q2
 obtain ⟨L2,hL2⟩:∃ L,L=[[97]]++[z31]:=⟨_,rfl⟩
 rw [← hL2] at r2
 have hLl:L2.length=2:=by rw [hL2];rfl
 refine goS trivial ?_
 (refine zb7 trivial (hlong) ?_;(repeat' (with_reducible apply Br.mk<;>intro _)))
 (refine goM (zq5 p j d2 105 20 10 b0 s1 [[97]] rec2 z31 hJ2 (by decide) (by decide) (by decide) (by omega) (by decide) (by omega) (by decide)) (hs6) ?_)
 rintro _ _ G6 ⟨rec3,d3,rfl,hJ3,-,-,rfl⟩ hs7
 rw [q2]
 rw [r2] at hJ3 hs7
 have hs7:Sep (zf p d3::za j (cA p 10 s1 b0 s1 L2 rec3)::SlA 1 rec3 (L2.map .str)::R) G6:=hs7
 have n3:npL L2=3:=by rw [hL2,hz31];decide
 have hroom:=(zm9 j p ((0:Nat):Int) 10 1 s1 0 (npL L2) (lkE 1 s1 0 (lkA b0) 0 (zb8 L2)) rec3 (by decide) (by omega)).q (G:=G6) (R:=zf p d3::SlA 1 rec3 (L2.map .str)::R) hs7.swap
 have en:(((10:Nat):Int) / 2 - 1 - ((npL L2:Nat):Int))=1:=by rw [n3];decide
 rw [en] at hroom
 refine goS trivial ?_
 (refine zb7 trivial (hroom) ?_;(repeat' (with_reducible apply Br.mk<;>intro _)))
 have hJ4:=hJ3.syn (by decide)
 obtain ⟨hJ4,y4,syn4⟩:=hJ4
 (refine goM (zw9 j p d3 ((0:Nat):Int) 10 1 s1 0 (npL L2) (lkE 1 s1 0 (lkA b0) 0 (zb8 L2)) rec3 (by have:=hJ3.lv.st;omega)) (hs7) ?_)
 rintro _ _ G7 ⟨rfl,rfl⟩ hs8
 rw [y4]
 obtain ⟨d4,hd4⟩:∃ d4,d4=(sy d3).1:=⟨_,rfl⟩
 rw [← hd4] at hs8 hJ4 syn4
 have hs8:Sep (zf p d4::za j (cA p 10 s1 b0 s1 L2 rec3)::SlA 1 rec3 (L2.map .str)::R) G7:=hs8
 have q3:zul 10 L2 [98]=0:=by rw [hL2,hz31];decide
 refine goS trivial ?_
 (refine goX trivial ?_;(repeat' (with_reducible apply Br.mk<;>intro _)))
 (refine goM (zq5 p j d4 (105+100+1) 20 10 b0 s1 L2 rec3 [98] hJ4 (by decide) (by decide) (by decide) (by omega) (by omega) (by decide) (by omega)) (hs8) ?_)
 rintro _ _ G8 ⟨rec4,d5,rfl,hJ5,-,hbs,rfl⟩ hs9
 rw [q3]
 have hs9:Sep (zf p d5::R) G8:=by
  have h:Sep (zf p d5::za j (cA p 10 s1 b0 s1 (z0j 10 L2 [98]) rec4)::SlA 1 rec4 ((z0j 10 L2 [98]).map .str)::R) G8:=hs9
  exact h.b3.tail.tail
 obtain ⟨c1,c2,c3⟩:=z0t hJ4.lv syn4 hbs
 have hJ6:StA (zir d5 [0]) 0 20 10 b0 s1 L2:=⟨c1,by rw [c2,hJ4.len],by decide,hJ4.s0.frame fun i _ _=>c3 i,hJ4.s1.frame fun i _ _=>c3 i⟩
 refine goS trivial ?_
 (refine goX trivial ?_;(repeat' (with_reducible apply Br.mk<;>intro _)))
 (refine goM (zzz p d5 [0] (by decide)) (hs9) ?_)
 rintro _ _ G9 ⟨p2,rfl,rfl⟩ hs10
 have hs10:Sep (zf p2 (zir d5 [0])::R) G9:=by
  have h:Sep (zf p2 (zir d5 [0])::zf p d5::R) G9:=hs10
  exact h.swap.tail
 generalize zir d5 [0]=d6 at hs10 hJ6
 have hsd:=JT.sides hJ6 (by decide)
 refine goS trivial ?_
 (refine goX trivial ?_;(repeat' (with_reducible apply Br.mk<;>intro _)))
 (refine goM (zxg p2 d6 20 10 (by decide) (z19 hJ6) (b0:=b0) (s1:=s1) (B:=3) (recs:=L2) hsd.1 hsd.2 (by omega) (by omega) (by decide) (by omega)) (hs10) ?_)
 rintro _ _ G10 ⟨j2,rec5,s2,hs2b,rfl,rfl⟩ hs11
 have hs11:Sep (zf p2 d6::za j2 (cA p2 10 s2 b0 s1 L2 rec5)::SlA 1 rec5 (L2.map .str)::R) G10:=hs11
 have rl2:=zc3 (g:=1) (ses:=s1) (side:=0) (zb8 L2) 0 (zfy (mkH 1 b0 0))
 refine goS trivial ?_
 (refine goX trivial ?_;(repeat' (with_reducible apply Br.mk<;>intro _)))
 (refine goM (zgd p2 j2 ((0:Nat):Int) 10 1 s2 0 (npL L2) (lkE 1 s1 0 (lkA b0) 0 (zb8 L2)) rec5 L2 rl2 (by omega)) (hs11.b3) ?_)
 rintro _ _ G11 ⟨x2,rfl,rfl⟩ hs12
 have hs12:Sep (SlA 1 x2 (L2.map .str)::za j2 (cA p2 10 s2 b0 s1 L2 rec5)::SlA 1 rec5 (L2.map .str)::zf p2 d6::R) G11:=hs12
 refine goS trivial ?_
 (refine zb7 trivial (hlong) ?_;(repeat' (with_reducible apply Br.mk<;>intro _)))
 have hSame:=zq6 L2 [[97],z31] (by omega) (by simp) hs12.gv.lend (.refl (.list [.str [97],.str z31]))
 rw [decide_eq_true (show L2=[[97],z31] from hL2)] at hSame
 have hs13:Sep (zf p2 d6::za j2 (cA p2 10 s2 b0 s1 L2 rec5)::SlA 1 rec5 (L2.map .str)::R) G11:=hs12.tail.perm pp
 have q4:zul 10 L2 z31=13:=by rw [hL2,hz31];decide
 (refine zgi trivial (hSame) (hlong) ?_;(repeat' (with_reducible apply Br.mk<;>intro _)))
 have happ:=zpb p2 j2 d6 0 0 10 1 s2 0 (npL L2) (lkE 1 s1 0 (lkA b0) 0 (zb8 L2)) rec5 z31 L2 0 (by decide) hJ6.lv (by decide) (by decide) (by decide) (by rw [hJ6.len];decide) (.inl rfl) rl2 (by decide) (by omega) (by omega) (by omega) (by omega) false (by rw [n3,hz31];decide)
 (refine goM (happ) (hs13) ?_)
 rintro _ _ G12 ⟨rec6,rfl,rfl⟩ hs14
 rw [show (if 1000<z31.length then 1 else if 10 / 2 - 1<npL L2+np z31 then 13 else 0:Int)=13 from q4]
 have hs14:Sep (zf p2 d6::za j2 (cA p2 10 s2 b0 s1 L2 rec5)::SlA 1 rec5 (L2.map .str)::R) G12:=hs14
 refine goS trivial ?_
 (refine goX trivial ?_;(repeat' (with_reducible apply Br.mk<;>intro _)))
 have er:rwE [[99]] (10 / 2 - 1) 1=0:=by
  unfold rwE
  rw [if_neg (by simp)];decide
 (refine goM (z9h p2 j2 d6 0 20 10 b0 s1 s2 L2 rec5 [[99]] hJ6 (by decide) (by decide) (by decide) (by omega) (by decide) (by simp) (by omega)) (hs14) ?_)
 rintro _ _ G13 ⟨rfl,⟨-,rec7,d7,hJ7,syn7,-,rfl⟩|⟨hne,-⟩⟩ hs15
 case inr=>exact absurd er hne
 rw [er]
 have hs15:Sep (zf p2 d7::za j2 (cB p2 10 s2 s2 [[99]] rec7)::SlA 1 rec7 (([[99]]:List (List UInt8)).map .str)::R) G13:=by
  have h:Sep (zf p2 d7::za j2 (cB p2 10 s2 s2 [[99]] rec7)::SlA 1 rec7 (([[99]]:List (List UInt8)).map .str)::SlA 1 rec5 (L2.map .str)::R) G13:=hs15
  exact h.f4.tail
 have rl3:=zc3 (g:=2) (ses:=s2) (side:=1) (zb8 [[99]]) 0 (zfy (mkH 2 s2 1))
 have hgen:=(z9e j2 p2 ((0:Nat):Int) 10 2 s2 1 (npL [[99]]) (lkE 2 s2 1 (lkB s2) 0 (zb8 [[99]])) rec7).q (G:=G13) (R:=zf p2 d7::SlA 1 rec7 (([[99]]:List (List UInt8)).map .str)::R) hs15.swap
 refine goS trivial ?_
 (refine zb7 trivial (hgen) ?_;(repeat' (with_reducible apply Br.mk<;>intro _)))
 (refine goM (zgd p2 j2 ((0:Nat):Int) 10 2 s2 1 (npL [[99]]) (lkE 2 s2 1 (lkB s2) 0 (zb8 [[99]])) rec7 [[99]] rl3 (by decide)) (hs15.b3) ?_)
 rintro _ _ G14 ⟨x3,rfl,rfl⟩ hs16
 have hs16:Sep (SlA 1 x3 (([[99]]:List (List UInt8)).map .str)::za j2 (cB p2 10 s2 s2 [[99]] rec7)::SlA 1 rec7 (([[99]]:List (List UInt8)).map .str)::zf p2 d7::R) G14:=hs16
 have hSame:=zq6 [[99]] [[99]] (by decide) (by decide) hs16.gv.lend (.refl (.list [.str [99]]))
 rw [decide_eq_true rfl] at hSame
 have hroom:=(zm9 j2 p2 ((0:Nat):Int) 10 2 s2 1 (npL [[99]]) (lkE 2 s2 1 (lkB s2) 0 (zb8 [[99]])) rec7 (by decide) (by decide)).q (G:=G14) (R:=SlA 1 rec7 (([[99]]:List (List UInt8)).map .str)::zf p2 d7::R) hs16.tail
 have en3:(((10:Nat):Int) / 2 - 1 - ((npL [[99]]:Nat):Int))=3:=by decide
 rw [en3] at hroom
 (refine zgi trivial (hSame) (hroom) ?_;(repeat' (with_reducible apply Br.mk<;>intro _)))
 have hs17:Sep (zf p2 d7::R) G14:=hs16.tail.tail.tail
 have hst7:=hJ7.lv.st
 have hI0:=zug.start hJ7 syn7 (by decide)
 have hI1:=hI0.skip
 have hlen7:d7.cs.length=20:=hI0.len
 obtain ⟨o1,o2,o3,o4,o5,o6,o7⟩:=zsr (i:=10) hI0.ok hI0.live (by omega)
 have o7:=o7 (syn7 _ (List.getElem_mem _))
 have hI2:=hI1.step (d':=(rot d7 ((10:Nat):Int)).1) (s:=1) (pr:=0) (i:=10) rfl (by decide) (by decide) (.inl rfl) o1 o3 (by omega) (by have:=hI0.st;omega) o6 (fun h _=>o7 h)
 have hI3:=hI2.skip
 have hop:((rot d7 ((10:Nat):Int)).1.cs[13]'(by omega)).op=[]:=by
  have:=o6 13 (by decide)
  rw [yliQ (by omega),yliQ (by omega)] at this
  rw [ylwQ this]
  exact syn7 _ (List.getElem_mem _)
 obtain ⟨d8,hd8⟩:∃ d,d=(rot d7 ((10:Nat):Int)).1:=⟨_,rfl⟩
 simp only [← hd8] at hI3 o1 o3 o4 hop
 obtain ⟨w1,w2,w3,w4,w5,w6,w7⟩:=zsr (i:=13) hI3.ok hI3.live (by omega)
 have w7:=w7 hop
 have hI4:=hI3.step (d':=(rot d8 ((13:Nat):Int)).1) (s:=1) (pr:=1) (i:=13) rfl (by decide) (by decide) (.inr rfl) w1 w3 (by omega) (by have:=hI3.st;omega) w6 (fun h _=>w7 h)
 obtain ⟨sd0,sd1⟩:=hI4.sides (by decide)
 have hd10:=zwm p2 d7 ((10:Nat):Int)
 rw [o2,← hd8] at hd10
 have hd13:=zwm p2 d8 ((13:Nat):Int)
 rw [w2] at hd13
 (refine goM (hd10) (hs17) ?_)
 rintro _ _ G15 ⟨rfl,rfl⟩ hs18
 refine goS trivial ?_
 (refine goX trivial ?_;(repeat' (with_reducible apply Br.mk<;>intro _)))
 (refine goM (hd13) (hs18) ?_)
 rintro _ _ G16 ⟨rfl,rfl⟩ hs19
 obtain ⟨d9,hd9⟩:∃ d,d=(rot d8 ((13:Nat):Int)).1:=⟨_,rfl⟩
 simp only [← hd9] at hs19 hI4 sd0 sd1
 refine goS trivial ?_
 (refine goX trivial ?_;(repeat' (with_reducible apply Br.mk<;>intro _)))
 (refine goM (z4r p2 d9 20 10 (by decide) (z47 hI4.live (by decide) (by rw [hI4.len];decide)) (b0:=b0) (s2:=s2) (B:=4) (recs:=[[99]]) sd0 sd1 (by omega) (fun k _=>zyi (zfy _) (by decide) (by omega) (zk6 _).1 (by omega) k) (by omega) (by decide) (by decide)) (hs19) ?_)
 rintro _ _ G17 ⟨j3,rec8,s3,hs3b,rfl,rfl⟩ hs20
 have hs20:Sep (zf p2 d9::za j3 (cB p2 10 s3 s2 [[99]] rec8)::SlA 1 rec8 (([[99]]:List (List UInt8)).map .str)::R) G17:=hs20
 refine goS trivial ?_
 (refine goX trivial ?_;(repeat' (with_reducible apply Br.mk<;>intro _)))
 (refine goM (zgd p2 j3 ((0:Nat):Int) 10 2 s3 1 (npL [[99]]) (lkE 2 s2 1 (lkB s2) 0 (zb8 [[99]])) rec8 [[99]] rl3 (by decide)) (hs20.b3) ?_)
 rintro _ _ G18 ⟨x4,rfl,rfl⟩ hs21
 have hs21:Sep (SlA 1 x4 (([[99]]:List (List UInt8)).map .str)::za j3 (cB p2 10 s3 s2 [[99]] rec8)::SlA 1 rec8 (([[99]]:List (List UInt8)).map .str)::zf p2 d9::R) G18:=hs21
 have hSame:=zq6 [[99]] [[99]] (by decide) (by decide) hs21.gv.lend (.refl (.list [.str [99]]))
 rw [decide_eq_true rfl] at hSame
 refine goS trivial ?_
 (refine zb7 trivial (hSame) ?_;(repeat' (with_reducible apply Br.mk<;>intro _)))
 exact Fin.eq rfl ⟨rfl,_,⟨rfl,rfl⟩,hs21.tail.tail.tail.tail⟩
end Go.Proofs.YtpplfpnjfjnkdaaGreatDoor
namespace Go.Proofs.YtpplfpnjfjnkdaaGreatDoor
open Go Go.E2 C22 C23 CW
set_option maxHeartbeats 16000000
theorem zrt {n:Nat} (h:n<65536):IntKind.u16.wrap (n:Int)=(n:Int):=by
 have:IntKind.u16.wrap (n:Int)=((n % 65536:Nat):Int):=by simp [IntKind.wrap,IntKind.bits,IntKind.signed]
 rw [this,Nat.mod_eq_of_lt h]
end Go.Proofs.YtpplfpnjfjnkdaaGreatDoor
namespace Go.Proofs.YtpplfpnjfjnkdaaGreatDoor
open Go Go.E2 C22 C23 CW
set_option maxHeartbeats 16000000
end Go.Proofs.YtpplfpnjfjnkdaaGreatDoor
namespace Go.Proofs.YtpplfpnjfjnkdaaGreatDoor
open Go Go.E2 CW CH
open Go.ChangeShapes Go.WideShapes Go.ChangeAt Go.RowKit
abbrev rI (k:IntKind):D→Prop:=fun d=>∃ n,(Lit.int k n).wf=true∧d=.int k n
theorem own:ownKnob Tryz.prog.godebug=none:=by kernel_rfl
theorem gRef : Tryz.prog.globalNamed "quietus/quietusref02.constants" = some 0 := by kernel_rfl
theorem z9i : Tryz.prog.globalNamed "quietus/hash.constants" = some 1 := by kernel_rfl
theorem gRefT:(Tryz.prog.globals[0]?).map (·.type)=some 192:=by kernel_rfl
theorem z9j:(Tryz.prog.globals[1]?).map (·.type)=some 192:=by kernel_rfl
theorem zsm:Tryz.prog.cellsOf 192=64:=by kernel_rfl
theorem zxj:Tryz.prog.cellsOf 173=1:=by kernel_rfl
abbrev z4t : List (String × DataW Unit) := [("quietus/quietusref02.constants", Rows.laid_quietus_quietusref02_constants), ("quietus/hash.constants", Rows.laid_quietus_hash_constants)]
theorem zxk:(Rows.laid_quietus_quietusref02_constants:DataW Unit)=Lib.tabData .u32 k256:=by kernel_rfl
theorem zpc:(Rows.laid_quietus_hash_constants:DataW Unit)=Lib.tabData .u32 k256:=by kernel_rfl
theorem z0k {W:World} (h:laidMetH Tryz.prog z4t W):zou (stb W):=by
 have h1 : Lib.TabIs Tryz.prog W "quietus/quietusref02.constants" .u32 k256 := by
  have hk : z4t = ("quietus/quietusref02.constants", Lib.tabData .u32 k256) :: [("quietus/hash.constants", Lib.tabData .u32 k256)] := by
   show [("quietus/quietusref02.constants", Rows.laid_quietus_quietusref02_constants), ("quietus/hash.constants", Rows.laid_quietus_hash_constants)] = _
   rw [zxk,zpc]
  have h':laidMet Tryz.prog z4t W:=h
  rw [hk] at h'
  exact Lib.tabIs_of_head gRef gRefT Tryz.underlying192 Tryz.underlying173 zxj zsm h'
 have h2 : Lib.TabIs Tryz.prog W "quietus/hash.constants" .u32 k256 := by
  have h' := laidMetH.filter (fun x => x.1 == "quietus/hash.constants") h
  have h'' : laidMet Tryz.prog [("quietus/hash.constants", Rows.laid_quietus_hash_constants)] W := h'
  rw [zpc] at h''
  exact Lib.tabIs_of_head z9i z9j Tryz.underlying192 Tryz.underlying173 zxj zsm h''
 have key:∀ (g:Nat),(∀ i,i<k256.length→W.cell? ⟨g,i,none⟩=some (.int .u32 (k256.getD i 0)))→∃ c:List Value,zac (stb W) (k256.map (D.int .u32)) c∧(k256.map (D.int .u32)).all D.one=true∧∀ (j:Nat) (u:Value),c[j]?=some u→stb W ⟨g,j,none⟩=some u:=fun g hg=>by
  refine ⟨k256.map (Value.int .u32),⟨by simp,fun j x v hx hv=>?_⟩,by rfl,fun j u hu=>?_⟩
  · rw [ylhQ] at hx hv
    cases hj:k256[j]? with
    | none=>rw [hj] at hx;cases hx
    | some n=>rw [hj] at hx hv;cases hx;cases hv;exact VRD.int _ _
  · have hj:j<k256.length:=by
     have:=(List.getElem?_eq_some_iff.1 hu).1
     rwa [yk3Q] at this
    rw [ylhQ,yliQ hj] at hu
    cases hu
    show W.cell? ⟨g,j,none⟩=_
    rw [hg j hj,List.getD_eq_getElem?_getD,yliQ hj];rfl
 intro g cs e
 unfold z8n at e
 split at e
 · cases e;exact key 0 fun i hi=>h1.cell gRef i hi
 · cases e;exact key 1 fun i hi=>h2.cell z9i i hi
 · cases e
def putK:Obj→Obj
 | .cells _ t frozen=>.cells (k256.map (Value.int .u32)).toArray t frozen
 | o=>o
noncomputable def laidWorld (os:Os):World :=
 { World.holding Tryz.prog os ⟨#[],#[],[]⟩ with heap:=((World.holding Tryz.prog os ⟨#[],#[],[]⟩).heap.modify 0 putK).modify 1 putK }
