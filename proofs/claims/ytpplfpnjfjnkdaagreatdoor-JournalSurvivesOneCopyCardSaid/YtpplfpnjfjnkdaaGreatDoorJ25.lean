/-
 Layer 23: a journal that was formatted is zbi,appended to and rewritten,by the program,in terms of its records.
 Conditions: of each contract as it says.
-/
import Derived.Test.YtpplfpnjfjnkdaaGreatDoorJ21
import Derived.Test.YtpplfpnjfjnkdaaGreatDoorEL1
import Derived.JoinedOf
import Derived.Test.YtpplfpnjfjnkdaaGreatDoorCards
import Derived.Test.YtpplfpnjfjnkdaaGreatDoorTie
import Derived.OpenShut
import Derived.Deep.DeepHandedRow
import Derived.Lib.LaidTab
import Derived.LaidSub
set_option linter.unusedSimpArgs false
namespace Go.Proofs.YtpplfpnjfjnkdaaGreatDoor
open Go Go.E2 C22 C23 CW
set_option maxHeartbeats 4000000
theorem zap.mono {P:Program} {f:FuncId} {xs:List D} {pre:List As} {Q Q':AV→List As→Prop} (h:zap P f xs pre Q) (hq:∀ r post,Q r post→Q' r post):zap P f xs pre Q':=fun R G σ hs =>
 (h R G σ hs).mono fun r _σ' _G' ⟨a,post,b,c⟩=>⟨a,post,hq r post b,c⟩
theorem zap.frame {P:Program} {f:FuncId} {xs:List D} {pre:List As} {Q:AV→List As→Prop} (h:zap P f xs pre Q) (F:List As):zap P f xs (pre++F) fun r post=>∃ p0,post=p0++F∧Q r p0:=fun R G σ hs =>
 (h (F++R) G σ (by rw [← List.append_assoc];exact hs)).mono fun r σ' G' ⟨a,post,b,c⟩=>⟨a,post++F,⟨post,rfl,b⟩,by rw [List.append_assoc];exact c⟩
abbrev lkA (b0:Nat):List UInt8:=tx (mkH 1 b0 0) 48 56
abbrev lkB (s2:Nat):List UInt8:=tx (mkH 2 s2 1) 48 56
abbrev StA (d:Dk) (n:Int) (N half b0 s1:Nat) (recs:List (List UInt8)):Prop:=JT d n N half (mkH 1 b0 0) z0 (C23.XL 1 s1 0 (lkA b0) (zbs recs)) (fun _=>z0)
abbrev StB (d:Dk) (n:Int) (N half b0 s1 s2:Nat) (old recs:List (List UInt8)):Prop:=JT d n N half (mkH 1 b0 0) (mkH 2 s2 1) (C23.XL 1 s1 0 (lkA b0) (zbs old)) (C23.XL 2 s2 1 (lkB s2) (zbs recs))
abbrev cA (p half ses b0 s1:Nat) (recs:List (List UInt8)) (rec:D):List D:=jC p ((0:Nat):Int) half 1 ses 0 (npL recs) (lkE 1 s1 0 (lkA b0) 0 (zbs recs)) rec
abbrev cB (p half ses s2:Nat) (recs:List (List UInt8)) (rec:D):List D:=jC p ((0:Nat):Int) half 2 ses 1 (npL recs) (lkE 2 s2 1 (lkB s2) 0 (zbs recs)) rec
def zt6 (half:Nat) (recs:List (List UInt8)) (s:List UInt8):Int:=if 1000<s.length then 1 else if half / 2 - 1<npL recs+np s then 13 else 0
def zt7 (half:Nat) (recs:List (List UInt8)) (s:List UInt8):List (List UInt8):=if zt6 half recs s=0 then recs++[s] else recs
theorem zmv (p j:Nat) (d:Dk) (n0:Int) (N half b0 s1:Nat) (recs:List (List UInt8)) (rec:D) (s:List UInt8) (hJ:StA d n0 N half b0 s1 recs) (hn:n0≤600000) (h8:4≤half) (hh:half≤20000) (hses:s1<4294967296) (hq:npL recs≤half / 2 - 1) (hs1:s.length≤1000000) (hrl:recs.length≤100000) :
 zap Tryz.prog f_zz15 [.gp j 0,.str s] [zf p d,za j (cA p half s1 b0 s1 recs rec),SlA 1 rec (recs.map .str)]
  (fun r post=>∃ rec' d',r=.d (eI (zt6 half recs s))∧StA d' (n0+100) N half b0 s1 (zt7 half recs s)∧npL (zt7 half recs s)≤half / 2 - 1∧bs d'=bs d ∧
    post=[zf p d',za j (cA p half s1 b0 s1 (zt7 half recs s) rec'),SlA 1 rec' ((zt7 half recs s).map .str)]):=by
 have hr:=hJ.room
 have hl:=hJ.len
 have h:=zo6 p j d n0 0 half 1 s1 0 (npL recs) (lkE 1 s1 0 (lkA b0) 0 (zbs recs)) rec s recs 0 (by omega) hJ.lv hn (by omega) h8 (by omega) (.inl rfl) (zbp _ _ (zc4 _)) (by decide) hses hq hs1 hrl _ rfl
 refine zap.mono h fun r post=>?_
 rintro ⟨rec',rfl,rfl⟩
 have hle:=zt6
 by_cases c:s.length≤1000∧npL recs+np s≤half / 2 - 1
 · have hE:zt6 half recs s=0:=by unfold zt6;rw [if_neg (by omega),if_neg (by omega)]
   have hR:zt7 half recs s=recs++[s]:=if_pos hE
   have hnp:=z80 c.1
   rw [if_pos (decide_eq_true c),hR]
   have hp:=hJ.put0 (m:=pcs s) (by rw [zdh,zko];exact c.2) (by rw [zko];omega) h8
   rw [zdh,zko,← zkp] at hp
   have hla:=zgs 1 s1 0 (zbs recs) (pcs s) (lkA b0) 0
   rw [← zkp,zdh,Nat.zero_add] at hla
   have en:npL (recs++[s])=npL recs+np s:=by simp [npL]
   refine ⟨rec',_,rfl,⟨hp.lv.mono (by omega),hp.len,hp.room,hp.s0,hp.s1⟩,by omega,zx0 _ _ _ _ _ _ _ _,?_⟩
   rw [← hla,← en]
 · have hE:zt6 half recs s≠0:=by
    unfold zt6
    by_cases c1:1000<s.length
    · rw [if_pos c1];decide
    · rw [if_neg c1,if_pos (by omega)];decide
   have hR:zt7 half recs s=recs:=if_neg hE
   rw [if_neg (fun h=>c (of_decide_eq_true h)),hR]
   exact ⟨rec,d,rfl,⟨hJ.lv.mono (by omega),hJ.len,hJ.room,hJ.s0,hJ.s1⟩,hq,rfl,rfl⟩
theorem zmw (p:Nat) (d:Dk) (n:Int) (half:Nat) (hhalf:half=(n / 2).toNat) (hp:zdg d 0 n=0) {b0 s1 B:Nat} {recs:List (List UInt8)} (h0:zew d 0 0 (half / 2 - 1) (mkH 1 b0 0) (C23.XL 1 s1 0 (lkA b0) (zbs recs)))
 (h1:zew d (0+half) 1 (half / 2 - 1) z0 (fun _=>z0)) (hB:b0<B) (hs:s1<B) (hB2:B<4294967296) (hq:npL recs≤half / 2 - 1) :
 zap Tryz.prog f_zz79 [.gp p 0,eI 0,eI n] [zf p d] (fun r post=>∃ j rec ses,ses≤B∧r=.tup [.gp j 0,eI 0]∧post=[zf p d,za j (cA p half ses b0 s1 recs rec),SlA 1 rec (recs.map .str)]):=by
 obtain ⟨hE,ses,hses,hO⟩:=opn_A hhalf hp h0 h1 hB hs hB2 hq
 refine zap.mono (zo4 p d 0 n half hhalf hE) fun r post=>?_
 rintro ⟨j,rec,rfl,rfl⟩
 rw [hO]
 exact ⟨j,rec,ses,hses,rfl,rfl⟩
theorem zwx (p:Nat) (d:Dk) (n:Int) (half:Nat) (hhalf:half=(n / 2).toNat) (hp:zdg d 0 n=0) {b0 s2 B:Nat} {X0:Nat→Sec} {recs:List (List UInt8)} (h0:zew d 0 0 (half / 2 - 1) (mkH 1 b0 0) X0)
 (h1:zew d (0+half) 1 (half / 2 - 1) (mkH 2 s2 1) (C23.XL 2 s2 1 (lkB s2) (zbs recs))) (hB:b0<B) (hX:∀ k,k<half / 2 - 1→be (tx (X0 k) 4 8)<B) (hs2:s2<B) (hB2:B<4294967296) (hq:npL recs≤half / 2 - 1) :
 zap Tryz.prog f_zz79 [.gp p 0,eI 0,eI n] [zf p d] (fun r post=>∃ j rec ses,ses≤B∧r=.tup [.gp j 0,eI 0]∧post=[zf p d,za j (cB p half ses s2 recs rec),SlA 1 rec (recs.map .str)]):=by
 obtain ⟨hE,ses,hses,hO⟩:=opn_B hhalf hp h0 h1 hB hX hs2 hB2 hq
 refine zap.mono (zo4 p d 0 n half hhalf hE) fun r post=>?_
 rintro ⟨j,rec,rfl,rfl⟩
 rw [hO]
 exact ⟨j,rec,ses,hses,rfl,rfl⟩
theorem zwy (p:Nat) (N:Nat) (n:Int) (half:Nat) (hhalf:half=(n / 2).toNat) (h8:8≤n) (hN:n≤N) (hN2:N≤65536) :
 zap Tryz.prog f_zz70 [.gp p 0,eI 0,eI n] [zf p (fresh N)] (fun r post=>∃ d b0,r=.d (eI 0)∧b0≤1∧(∀ s1,StA d 5 N half b0 s1 [])∧post=[zf p d]):=by
 obtain ⟨e,l1,l2,b0,hb,s0,s1⟩:=zxz (N:=N) (n:=n) hhalf h8 hN hN2
 refine zap.mono (zwq p (fresh N) 0 n (by show (0:Int)≤_;decide)) fun r post=>?_
 rintro ⟨rfl,rfl⟩
 rw [e]
 refine ⟨_,b0,rfl,hb,fun ses=>⟨l1,l2,by omega,?_,s1⟩,rfl⟩
 have ez:C23.XL 1 ses 0 (lkA b0) (zbs [])=fun _=>z0:=by funext k;rfl
 rw [ez];exact s0
theorem JT.sides {d:Dk} {n:Int} {N half:Nat} {h0 h1:Sec} {X0 X1:Nat→Sec} (h:JT d n N half h0 h1 X0 X1) (h4:4≤half):zew d 0 0 (half / 2 - 1) h0 X0∧zew d (0+half) 1 (half / 2 - 1) h1 X1:=by
 have hr:=h.room
 have hl:=h.len
 have a:=h.s0.p h.lv (by omega) 0
 have b:=h.s1.p h.lv (by omega) 1
 have ez:((0:Nat):Int)=0:=rfl
 have e2:(0:Int)+(half:Int)=((half:Nat):Int):=by omega
 rw [ez] at a
 rw [e2]
 exact ⟨a,b⟩
theorem z1h (p j:Nat) (d:Dk) (n0:Int) (N half b0 s1 ses:Nat) (recs:List (List UInt8)) (rec:D) (l:List (List UInt8)) (hJ:StA d n0 N half b0 s1 recs) (hn:n0≤600000) (h8:4≤half) (hh:half≤20000) (hses:ses<4294967296) (hll:l.length≤1000) (hls:∀ s∈l,s.length≤100000) (_hrl:recs.length≤1000) :
 zap Tryz.prog f_zz8 [.gp j 0,.list (l.map .str)] [zf p d,za j (cA p half ses b0 s1 recs rec),SlA 1 rec (recs.map .str)]
  (fun r post=>r=.d (eI (rwE l (half / 2 - 1) 1))∧(
    (rwE l (half / 2 - 1) 1=0∧∃ rec' d',StB d' (n0+100000) N half b0 s1 ses recs l∧Syn d'∧npL l≤half / 2 - 1∧post=[zf p d',za j (cB p half ses ses l rec'),SlA 1 rec' (l.map .str),SlA 1 rec (recs.map .str)]) ∨
    (rwE l (half / 2 - 1) 1≠0∧post=[zf p d,za j (cA p half ses b0 s1 recs rec),SlA 1 rec (recs.map .str)]))):=by
 have hr:=hJ.room
 have hl:=hJ.len
 by_cases hE:rwE l (half / 2 - 1) 1=0
 · have hE2:=hE
   unfold rwE at hE2
   have c1:¬ ∃ s∈l,1000<s.length:=fun h=>by rw [if_pos h] at hE2;cases hE2
   rw [if_neg c1] at hE2
   have c2:¬ half / 2 - 1<npL l:=fun h=>by rw [if_pos h] at hE2;cases hE2
   have hls2:∀ s∈l,s.length≤1000:=fun s hs=>by
    by_cases h:1000<s.length
    · exact absurd ⟨s,hs,h⟩ c1
    · omega
   have h:=ztu p j d n0 0 half 1 ses 0 (npL recs) 1 (lkE 1 s1 0 (lkA b0) 0 (zbs recs)) rec l hJ.lv hn (by omega) h8 (by omega) (.inl ⟨rfl,rfl⟩) (zbp _ _ (zc4 _)) (by decide) hses hll hls2 (by omega)
   have hp:=hJ.rw1 (g:=2) (ses:=ses) (m:=zbs l) (by rw [zdh];omega) (by rw [zdh];omega) h8
   rw [zdh] at hp
   have e0:0+1 * half=half:=by omega
   refine zap.mono (zap.frame h [SlA 1 rec (recs.map .str)]) fun r post=>?_
   rintro ⟨p0,rfl,rec',rfl,rfl⟩
   have ed:rwD d 0 half 2 ses 1 l=(sy (wr2 (sy (zgr half 2 ses 1 d (tx (mkH 2 ses 1) 48 56) 0 (zbs l))).1 (half:Int) (mkH 2 ses 1)).1).1:=by unfold rwD;rw [e0]
   rw [← ed] at hp
   exact ⟨by rw [hE],.inl ⟨hE,rec',_,⟨hp.1.lv.mono (by omega),hp.1.len,hp.1.room,hp.1.s0,hp.1.s1⟩,hp.2,by omega,rfl⟩⟩
 · have h:=zq3 p j 0 half 1 ses 0 (npL recs) (lkE 1 s1 0 (lkA b0) 0 (zbs recs)) rec l (by omega) h8 (by decide) hll hls hE
   intro R G σ hs
   have hs:Sep (zf p d::za j (cA p half ses b0 s1 recs rec)::SlA 1 rec (recs.map .str)::R) G:=hs
   refine (h (zf p d::SlA 1 rec (recs.map .str)::R) G σ hs.swap).mono ?_
   rintro r σ' G' ⟨rfl,post,⟨rfl,rfl⟩,hs2⟩
   have hs2:Sep (za j (cA p half ses b0 s1 recs rec)::zf p d::SlA 1 rec (recs.map .str)::R) G':=hs2
   exact ⟨rfl,_,⟨rfl,.inr ⟨hE,rfl⟩⟩,hs2.swap⟩
end Go.Proofs.YtpplfpnjfjnkdaaGreatDoor
namespace Go.Proofs.YtpplfpnjfjnkdaaGreatDoor
open Go Go.E2 C22 C23 CW
set_option maxHeartbeats 16000000
theorem z1i {d:Dk} {n:Int} {half:Nat} {h0 h1:Sec} {X0 X1:Nat→Sec} (h:JT d n 20 half h0 h1 X0 X1):zdg d 0 20=0:=zt1 h.lv.live (by decide) (by rw [h.len];decide)
theorem zwz {half:Nat} {recs:List (List UInt8)} {s:List UInt8} (h:zt6 half recs s=0):zt7 half recs s=recs++[s]:=if_pos h
theorem zmx {G:Gh} {x y:D} (a b:List (List UInt8)) (ha:a.length≤1000000) (hb:b.length≤1000000) (hx:zu4 G x (.list (a.map .str))) (hy:zu4 G y (.list (b.map .str))):zkw Tryz.prog f_zz49 [x,y] G (·=.d (.bool (decide (a=b)))):=fun σ =>
 (zzw a b ha hb).lend (zjy.cons hx (.cons hy .nil)) (by rintro _ rfl;rfl) σ
theorem zfm:zap Tryz.prog f_zz33 [] [] (fun r post=>r=.d (.bool true)∧post=[]):=by
 refine z1 fol zz33_cp fun R G σ hs=>?_
 have hs:Sep R G:=hs
 have hlong:=z33 31 (by decide)
 have e2:((31:Nat):Int)=31:=rfl
 rw [e2] at hlong
 obtain ⟨z31,hz31⟩:∃ z,z=List.replicate 31 (0:UInt8):=⟨_,rfl⟩
 rw [← hz31] at hlong
 have hz:z31.length=31:=by rw [hz31];simp
 refine goS trivial ?_
 refine goR trivial ?_
 (refine goM (zv4 20 (by omega) (by omega)) ((show Sep ([]++R) G from hs)) ?_)
 rintro _ _ G1 ⟨p,rfl,rfl⟩ hs1
 have hs1:Sep (zf p (fresh 20)::R) G1:=hs1
 refine goS trivial ?_
 (refine goX trivial ?_;(repeat' (with_reducible apply Br.mk<;>intro _)))
 (refine goM (zwy p 20 20 10 (by decide) (by decide) (by decide) (by decide)) (hs1) ?_)
 rintro _ _ G2 ⟨d1,b0,rfl,hb0,hst1,rfl⟩ hs2
 have hsd:=JT.sides (hst1 0) (by decide)
 refine goS trivial ?_
 (refine goX trivial ?_;(repeat' (with_reducible apply Br.mk<;>intro _)))
 (refine goM (zmw p d1 20 10 (by decide) (z1i (hst1 0)) (b0:=b0) (s1:=0) (B:=2) (recs:=[]) hsd.1 hsd.2 (by omega) (by omega) (by decide) (by decide)) (hs2) ?_)
 rintro _ _ G3 ⟨j,rec,s1,hs1b,rfl,rfl⟩ hs3
 have hs3:Sep (zf p d1::za j (cA p 10 s1 b0 s1 [] rec)::SlA 1 rec (([]:List (List UInt8)).map .str)::R) G3:=hs3
 have hJ1:=hst1 s1
 have hroom:=(zmt j p ((0:Nat):Int) 10 1 s1 0 (npL []) (lkE 1 s1 0 (lkA b0) 0 (zbs [])) rec (by decide) (by decide)).q (G:=G3) (R:=zf p d1::SlA 1 rec (([]:List (List UInt8)).map .str)::R) hs3.swap
 have en:(((10:Nat):Int) / 2 - 1 - ((npL []:Nat):Int))=4:=by decide
 rw [en] at hroom
 refine goS trivial ?_
 (refine zb5 trivial (hroom) ?_;(repeat' (with_reducible apply Br.mk<;>intro _)))
 have rl:=zbp (g:=1) (ses:=s1) (side:=0) (zbs []) 0 (zc4 (mkH 1 b0 0))
 (refine goM (zb3 p j ((0:Nat):Int) 10 1 s1 0 (npL []) (lkE 1 s1 0 (lkA b0) 0 (zbs [])) rec [] rl (by decide)) (hs3.b3) ?_)
 rintro _ _ G4 ⟨x,rfl,rfl⟩ hs4
 have hs4:Sep (SlA 1 x (([]:List (List UInt8)).map .str)::za j (cA p 10 s1 b0 s1 [] rec)::SlA 1 rec (([]:List (List UInt8)).map .str)::zf p d1::R) G4:=hs4
 have hxl:=hs4.gv.len
 have hxl:z2q false (some x)=some (.d (.int .i64 0)):=hxl
 have hs5:Sep (zf p d1::za j (cA p 10 s1 b0 s1 [] rec)::SlA 1 rec (([]:List (List UInt8)).map .str)::R) G4:=hs4.tail.perm pp
 refine goS hxl ?_
 (refine goX hxl ?_;(repeat' (with_reducible apply Br.mk<;>intro _)))
 have q1:zt6 10 [] [97]=0:=by decide
 have r1:=zwz q1
 rw [List.nil_append] at r1
 (refine goM (zmv p j d1 5 20 10 b0 s1 [] rec [97] hJ1 (by decide) (by decide) (by decide) (by omega) (by decide) (by decide) (by decide)) (hs5) ?_)
 rintro _ _ G5 ⟨rec2,d2,rfl,hJ2,-,-,rfl⟩ hs6
 rw [q1]
 rw [r1] at hJ2 hs6
 have hs6:Sep (zf p d2::za j (cA p 10 s1 b0 s1 [[97]] rec2)::SlA 1 rec2 (([[97]]:List (List UInt8)).map .str)::R) G5:=hs6
 have q2:zt6 10 [[97]] z31=0:=by rw [hz31];decide
 have r2:=zwz q2
 obtain ⟨L2,hL2⟩:∃ L,L=[[97]]++[z31]:=⟨_,rfl⟩
 rw [← hL2] at r2
 have hLl:L2.length=2:=by rw [hL2];rfl
 refine goS trivial ?_
 (refine zb5 trivial (hlong) ?_;(repeat' (with_reducible apply Br.mk<;>intro _)))
 (refine goM (zmv p j d2 105 20 10 b0 s1 [[97]] rec2 z31 hJ2 (by decide) (by decide) (by decide) (by omega) (by decide) (by omega) (by decide)) (hs6) ?_)
 rintro _ _ G6 ⟨rec3,d3,rfl,hJ3,-,-,rfl⟩ hs7
 rw [q2]
 rw [r2] at hJ3 hs7
 have hs7:Sep (zf p d3::za j (cA p 10 s1 b0 s1 L2 rec3)::SlA 1 rec3 (L2.map .str)::R) G6:=hs7
 have n3:npL L2=3:=by rw [hL2,hz31];decide
 have hroom:=(zmt j p ((0:Nat):Int) 10 1 s1 0 (npL L2) (lkE 1 s1 0 (lkA b0) 0 (zbs L2)) rec3 (by decide) (by omega)).q (G:=G6) (R:=zf p d3::SlA 1 rec3 (L2.map .str)::R) hs7.swap
 have en:(((10:Nat):Int) / 2 - 1 - ((npL L2:Nat):Int))=1:=by rw [n3];decide
 rw [en] at hroom
 refine goS trivial ?_
 (refine zb5 trivial (hroom) ?_;(repeat' (with_reducible apply Br.mk<;>intro _)))
 have hJ4:=hJ3.syn (by decide)
 obtain ⟨hJ4,y4,syn4⟩:=hJ4
 (refine goM (zo5 j p d3 ((0:Nat):Int) 10 1 s1 0 (npL L2) (lkE 1 s1 0 (lkA b0) 0 (zbs L2)) rec3 (by have:=hJ3.lv.st;omega)) (hs7) ?_)
 rintro _ _ G7 ⟨rfl,rfl⟩ hs8
 rw [y4]
 obtain ⟨d4,hd4⟩:∃ d4,d4=(sy d3).1:=⟨_,rfl⟩
 rw [← hd4] at hs8 hJ4 syn4
 have hs8:Sep (zf p d4::za j (cA p 10 s1 b0 s1 L2 rec3)::SlA 1 rec3 (L2.map .str)::R) G7:=hs8
 have q3:zt6 10 L2 [98]=0:=by rw [hL2,hz31];decide
 refine goS trivial ?_
 (refine goX trivial ?_;(repeat' (with_reducible apply Br.mk<;>intro _)))
 (refine goM (zmv p j d4 (105+100+1) 20 10 b0 s1 L2 rec3 [98] hJ4 (by decide) (by decide) (by decide) (by omega) (by omega) (by decide) (by omega)) (hs8) ?_)
 rintro _ _ G8 ⟨rec4,d5,rfl,hJ5,-,hbs,rfl⟩ hs9
 rw [q3]
 have hs9:Sep (zf p d5::R) G8:=by
  have h:Sep (zf p d5::za j (cA p 10 s1 b0 s1 (zt7 10 L2 [98]) rec4)::SlA 1 rec4 ((zt7 10 L2 [98]).map .str)::R) G8:=hs9
  exact h.b3.tail.tail
 obtain ⟨c1,c2,c3⟩:=zz6 hJ4.lv syn4 hbs
 have hJ6:StA (zie d5 [0]) 0 20 10 b0 s1 L2:=⟨c1,by rw [c2,hJ4.len],by decide,hJ4.s0.frame fun i _ _=>c3 i,hJ4.s1.frame fun i _ _=>c3 i⟩
 refine goS trivial ?_
 (refine goX trivial ?_;(repeat' (with_reducible apply Br.mk<;>intro _)))
 (refine goM (zzc p d5 [0] (by decide)) (hs9) ?_)
 rintro _ _ G9 ⟨p2,rfl,rfl⟩ hs10
 have hs10:Sep (zf p2 (zie d5 [0])::R) G9:=by
  have h:Sep (zf p2 (zie d5 [0])::zf p d5::R) G9:=hs10
  exact h.swap.tail
 generalize zie d5 [0]=d6 at hs10 hJ6
 have hsd:=JT.sides hJ6 (by decide)
 refine goS trivial ?_
 (refine goX trivial ?_;(repeat' (with_reducible apply Br.mk<;>intro _)))
 (refine goM (zmw p2 d6 20 10 (by decide) (z1i hJ6) (b0:=b0) (s1:=s1) (B:=3) (recs:=L2) hsd.1 hsd.2 (by omega) (by omega) (by decide) (by omega)) (hs10) ?_)
 rintro _ _ G10 ⟨j2,rec5,s2,hs2b,rfl,rfl⟩ hs11
 have hs11:Sep (zf p2 d6::za j2 (cA p2 10 s2 b0 s1 L2 rec5)::SlA 1 rec5 (L2.map .str)::R) G10:=hs11
 have rl2:=zbp (g:=1) (ses:=s1) (side:=0) (zbs L2) 0 (zc4 (mkH 1 b0 0))
 refine goS trivial ?_
 (refine goX trivial ?_;(repeat' (with_reducible apply Br.mk<;>intro _)))
 (refine goM (zb3 p2 j2 ((0:Nat):Int) 10 1 s2 0 (npL L2) (lkE 1 s1 0 (lkA b0) 0 (zbs L2)) rec5 L2 rl2 (by omega)) (hs11.b3) ?_)
 rintro _ _ G11 ⟨x2,rfl,rfl⟩ hs12
 have hs12:Sep (SlA 1 x2 (L2.map .str)::za j2 (cA p2 10 s2 b0 s1 L2 rec5)::SlA 1 rec5 (L2.map .str)::zf p2 d6::R) G11:=hs12
 refine goS trivial ?_
 (refine zb5 trivial (hlong) ?_;(repeat' (with_reducible apply Br.mk<;>intro _)))
 have hSame:=zmx L2 [[97],z31] (by omega) (by simp) hs12.gv.lend (.refl (.list [.str [97],.str z31]))
 rw [decide_eq_true (show L2=[[97],z31] from hL2)] at hSame
 have hs13:Sep (zf p2 d6::za j2 (cA p2 10 s2 b0 s1 L2 rec5)::SlA 1 rec5 (L2.map .str)::R) G11:=hs12.tail.perm pp
 have q4:zt6 10 L2 z31=13:=by rw [hL2,hz31];decide
 (refine zgj trivial (hSame) (hlong) ?_;(repeat' (with_reducible apply Br.mk<;>intro _)))
 have happ:=zo6 p2 j2 d6 0 0 10 1 s2 0 (npL L2) (lkE 1 s1 0 (lkA b0) 0 (zbs L2)) rec5 z31 L2 0 (by decide) hJ6.lv (by decide) (by decide) (by decide) (by rw [hJ6.len];decide) (.inl rfl) rl2 (by decide) (by omega) (by omega) (by omega) (by omega) false (by rw [n3,hz31];decide)
 (refine goM (happ) (hs13) ?_)
 rintro _ _ G12 ⟨rec6,rfl,rfl⟩ hs14
 rw [show (if 1000<z31.length then 1 else if 10 / 2 - 1<npL L2+np z31 then 13 else 0:Int)=13 from q4]
 have hs14:Sep (zf p2 d6::za j2 (cA p2 10 s2 b0 s1 L2 rec5)::SlA 1 rec5 (L2.map .str)::R) G12:=hs14
 refine goS trivial ?_
 (refine goX trivial ?_;(repeat' (with_reducible apply Br.mk<;>intro _)))
 have er:rwE [[99]] (10 / 2 - 1) 1=0:=by
  unfold rwE
  rw [if_neg (by simp)];decide
 (refine goM (z1h p2 j2 d6 0 20 10 b0 s1 s2 L2 rec5 [[99]] hJ6 (by decide) (by decide) (by decide) (by omega) (by decide) (by simp) (by omega)) (hs14) ?_)
 rintro _ _ G13 ⟨rfl,⟨-,rec7,d7,hJ7,syn7,-,rfl⟩|⟨hne,-⟩⟩ hs15
 case inr=>exact absurd er hne
 rw [er]
 have hs15:Sep (zf p2 d7::za j2 (cB p2 10 s2 s2 [[99]] rec7)::SlA 1 rec7 (([[99]]:List (List UInt8)).map .str)::R) G13:=by
  have h:Sep (zf p2 d7::za j2 (cB p2 10 s2 s2 [[99]] rec7)::SlA 1 rec7 (([[99]]:List (List UInt8)).map .str)::SlA 1 rec5 (L2.map .str)::R) G13:=hs15
  exact h.f4.tail
 have rl3:=zbp (g:=2) (ses:=s2) (side:=1) (zbs [[99]]) 0 (zc4 (mkH 2 s2 1))
 have hgen:=(z8y j2 p2 ((0:Nat):Int) 10 2 s2 1 (npL [[99]]) (lkE 2 s2 1 (lkB s2) 0 (zbs [[99]])) rec7).q (G:=G13) (R:=zf p2 d7::SlA 1 rec7 (([[99]]:List (List UInt8)).map .str)::R) hs15.swap
 refine goS trivial ?_
 (refine zb5 trivial (hgen) ?_;(repeat' (with_reducible apply Br.mk<;>intro _)))
 (refine goM (zb3 p2 j2 ((0:Nat):Int) 10 2 s2 1 (npL [[99]]) (lkE 2 s2 1 (lkB s2) 0 (zbs [[99]])) rec7 [[99]] rl3 (by decide)) (hs15.b3) ?_)
 rintro _ _ G14 ⟨x3,rfl,rfl⟩ hs16
 have hs16:Sep (SlA 1 x3 (([[99]]:List (List UInt8)).map .str)::za j2 (cB p2 10 s2 s2 [[99]] rec7)::SlA 1 rec7 (([[99]]:List (List UInt8)).map .str)::zf p2 d7::R) G14:=hs16
 have hSame:=zmx [[99]] [[99]] (by decide) (by decide) hs16.gv.lend (.refl (.list [.str [99]]))
 rw [decide_eq_true rfl] at hSame
 have hroom:=(zmt j2 p2 ((0:Nat):Int) 10 2 s2 1 (npL [[99]]) (lkE 2 s2 1 (lkB s2) 0 (zbs [[99]])) rec7 (by decide) (by decide)).q (G:=G14) (R:=SlA 1 rec7 (([[99]]:List (List UInt8)).map .str)::zf p2 d7::R) hs16.tail
 have en3:(((10:Nat):Int) / 2 - 1 - ((npL [[99]]:Nat):Int))=3:=by decide
 rw [en3] at hroom
 (refine zgj trivial (hSame) (hroom) ?_;(repeat' (with_reducible apply Br.mk<;>intro _)))
 have hs17:Sep (zf p2 d7::R) G14:=hs16.tail.tail.tail
 have hst7:=hJ7.lv.st
 have hI0:=zk7.start hJ7 syn7 (by decide)
 have hI1:=hI0.skip
 have hlen7:d7.cs.length=20:=hI0.len
 obtain ⟨o1,o2,o3,o4,o5,o6,o7⟩:=zpb (i:=10) hI0.ok hI0.live (by omega)
 have o7:=o7 (syn7 _ (List.getElem_mem _))
 have hI2:=hI1.step (d':=(rot d7 ((10:Nat):Int)).1) (s:=1) (pr:=0) (i:=10) rfl (by decide) (by decide) (.inl rfl) o1 o3 (by omega) (by have:=hI0.st;omega) o6 (fun h _=>o7 h)
 have hI3:=hI2.skip
 have hop:((rot d7 ((10:Nat):Int)).1.cs[13]'(by omega)).op=[]:=by
  have:=o6 13 (by decide)
  rw [List.getElem?_eq_getElem (by omega),List.getElem?_eq_getElem (by omega)] at this
  rw [Option.some.inj this]
  exact syn7 _ (List.getElem_mem _)
 obtain ⟨d8,hd8⟩:∃ d,d=(rot d7 ((10:Nat):Int)).1:=⟨_,rfl⟩
 simp only [← hd8] at hI3 o1 o3 o4 hop
 obtain ⟨w1,w2,w3,w4,w5,w6,w7⟩:=zpb (i:=13) hI3.ok hI3.live (by omega)
 have w7:=w7 hop
 have hI4:=hI3.step (d':=(rot d8 ((13:Nat):Int)).1) (s:=1) (pr:=1) (i:=13) rfl (by decide) (by decide) (.inr rfl) w1 w3 (by omega) (by have:=hI3.st;omega) w6 (fun h _=>w7 h)
 obtain ⟨sd0,sd1⟩:=hI4.sides (by decide)
 have hd10:=zqo p2 d7 ((10:Nat):Int)
 rw [o2,← hd8] at hd10
 have hd13:=zqo p2 d8 ((13:Nat):Int)
 rw [w2] at hd13
 (refine goM (hd10) (hs17) ?_)
 rintro _ _ G15 ⟨rfl,rfl⟩ hs18
 refine goS trivial ?_
 (refine goX trivial ?_;(repeat' (with_reducible apply Br.mk<;>intro _)))
 (refine goM (hd13) (hs18) ?_)
 rintro _ _ G16 ⟨rfl,rfl⟩ hs19
 obtain ⟨d9,hd9⟩:∃ d,d=(rot d8 ((13:Nat):Int)).1:=⟨_,rfl⟩
 simp only [← hd9] at hs19 hI4 sd0 sd1
 refine goS trivial ?_
 (refine goX trivial ?_;(repeat' (with_reducible apply Br.mk<;>intro _)))
 (refine goM (zwx p2 d9 20 10 (by decide) (zt1 hI4.live (by decide) (by rw [hI4.len];decide)) (b0:=b0) (s2:=s2) (B:=4) (recs:=[[99]]) sd0 sd1 (by omega) (fun k _=>zsy (zc4 _) (by decide) (by omega) (zim _).1 (by omega) k) (by omega) (by decide) (by decide)) (hs19) ?_)
 rintro _ _ G17 ⟨j3,rec8,s3,hs3b,rfl,rfl⟩ hs20
 have hs20:Sep (zf p2 d9::za j3 (cB p2 10 s3 s2 [[99]] rec8)::SlA 1 rec8 (([[99]]:List (List UInt8)).map .str)::R) G17:=hs20
 refine goS trivial ?_
 (refine goX trivial ?_;(repeat' (with_reducible apply Br.mk<;>intro _)))
 (refine goM (zb3 p2 j3 ((0:Nat):Int) 10 2 s3 1 (npL [[99]]) (lkE 2 s2 1 (lkB s2) 0 (zbs [[99]])) rec8 [[99]] rl3 (by decide)) (hs20.b3) ?_)
 rintro _ _ G18 ⟨x4,rfl,rfl⟩ hs21
 have hs21:Sep (SlA 1 x4 (([[99]]:List (List UInt8)).map .str)::za j3 (cB p2 10 s3 s2 [[99]] rec8)::SlA 1 rec8 (([[99]]:List (List UInt8)).map .str)::zf p2 d9::R) G18:=hs21
 have hSame:=zmx [[99]] [[99]] (by decide) (by decide) hs21.gv.lend (.refl (.list [.str [99]]))
 rw [decide_eq_true rfl] at hSame
 refine goS trivial ?_
 (refine zb5 trivial (hSame) ?_;(repeat' (with_reducible apply Br.mk<;>intro _)))
 exact Fin.eq rfl ⟨rfl,_,⟨rfl,rfl⟩,hs21.tail.tail.tail.tail⟩
end Go.Proofs.YtpplfpnjfjnkdaaGreatDoor
namespace Go.Proofs.YtpplfpnjfjnkdaaGreatDoor
open Go Go.E2 C22 C23 CW
set_option maxHeartbeats 16000000
abbrev eU (n:Nat):D:=.int .u16 (n:Int)
theorem zw0 (a b:Int):zar .and (.int .u16 a) (.int .u16 b)=some (.int .u16 (IntKind.u16.wrap ((BitVec.ofInt 16 a &&& BitVec.ofInt 16 b).toNat:Int))):=rfl
theorem zi5 {n:Nat} (h:n<65536):IntKind.u16.wrap (n:Int)=(n:Int):=by
 have:IntKind.u16.wrap (n:Int)=((n % 65536:Nat):Int):=by simp [IntKind.wrap,IntKind.bits,IntKind.signed]
 rw [this,Nat.mod_eq_of_lt h]
theorem zw1 {a:Nat} (h:a<65536):zar .and (.int .u16 (a:Int)) (.int .u16 1)=some (.int .u16 ((a % 2:Nat):Int)):=by
 have h1:=zby 16 a (by omega)
 have h2:(BitVec.ofInt 16 (1:Int)).toNat=1:=rfl
 rw [zw0,BitVec.toNat_and,h1,h2,Nat.and_one_is_mod,zi5 (by omega)]
theorem z34 {a:Nat} (_h:a<65536):∃ v:Nat,v<65536∧zar .and (.int .u16 (a:Int)) (.int .u16 4)=some (.int .u16 (v:Int)):=by
 refine ⟨(BitVec.ofInt 16 (a:Int) &&& BitVec.ofInt 16 4).toNat,(BitVec.ofInt 16 (a:Int) &&& BitVec.ofInt 16 4).isLt,?_⟩
 rw [zw0,zi5 (BitVec.isLt _)]
theorem z82 (n:Nat) {k:Nat} (hk:k≤16):zar .shr (.int .u16 (n:Int)) (.int .u64 (k:Int))=some (.int .u16 ((n / 2 ^ k:Nat):Int)):=by
 show (if (k:Int)<0 then none else some (D.int .u16 (Int.fdiv (n:Int) (2 ^ (min (k:Int).toNat 16)))))=_
 rw [if_neg (by omega),Int.toNat_natCast,Nat.min_eq_left hk,Int.fdiv_eq_ediv_of_nonneg _ (Int.pow_nonneg (by omega))]
 norm_cast
abbrev z83:ACode:=.seq (.seq (.reg false zz0_r20) (.block 2 (.loop zz0_l1))) (.seq (.reg false zz0_r34) (.seq (.reg false zz0_r35) .ret))
theorem zq5 (p:Nat) (N half n:Nat) (hhalf:half=n / 2) (h8:8≤n) (hn:n≤39) (harm:List Nat) (hh:∀ h∈harm,h<65536) (hl:harm.length≤40) (x:D) (want:List (List UInt8)) (hw:want.length≤1000) (W0:Nat→Nat→Sec) (d:Dk) (G:Gh) (R:List As) (b4:Blk)
 (hN:N=n) (hI:zk7 d N half 0 W0)
 (hopen:∀ d' k,zk7 d' N half k W0→zap Tryz.prog f_zz79 [.gp p 0,eI 0,eI (n:Int)] [zf p d'] (fun r post=>∃ j C rec,r=.tup [.gp j 0,eI 0]∧post=[zf p d',za j C,SlA 1 rec (want.map .str)] ∧
   zap Tryz.prog f_zz7 [.gp j 0] [za j C,SlA 1 rec (want.map .str)] (fun r post=>∃ x,r=.d x∧post=[SlA 1 x (want.map .str),za j C,SlA 1 rec (want.map .str)])))
 (hs:Sep (zf p d::SlA 1 x (want.map .str)::R) G) :
 W Tryz.prog z83 (zm.mk (a:=zu2 [.tmp 6] fun r σ' G'=>σ'=[]∧∃ r2,DRA G'.c r r2∧r2=AV.d (.bool true)))
   (E [(13,.d x),(8,.d (.gp p 0)),(7,.d (eI (n:Int))),(2,.d (.list (harm.map eU)))],HB [(4,b4)],[],G):=by
 unfold z83
 refine goR trivial ?_
 refine W.loop (fun m st=>∃ (k:Nat) (d':Dk) (G':Gh) (b19:Blk),k≤harm.length∧m=harm.length - k∧zk7 d' N half k W0∧Sep (zf p d'::SlA 1 x (want.map .str)::R) G' ∧
  st=(E [(90,.d (eI k)),(89,.d (eI harm.length)),(88,.d (.list (harm.map eU))),(13,.d x),(8,.d (.gp p 0)),(7,.d (eI (n:Int)))],HB [(4,b4),(19,b19)],[],G'))
  ⟨_,_,z2 (zlm [(4,b4)] [19] rfl).symm,0,d,G,⟨0,none⟩,by omega,rfl,hI,hs,rfl⟩ ?_
 rintro m st ⟨k,d',G',b19,hk,rfl,hI',hs',rfl⟩
 have hd2:((n:Int)).tdiv 2=(half:Int):=by rw [Int.tdiv_eq_ediv_of_nonneg (by omega)];omega
 by_cases hk2:k=harm.length
 · subst hk2
   have hkI:((harm.length:Int)<(harm.length:Int))=False:=eq_false (by omega)
   (refine goX hkI ?_;(repeat' (with_reducible apply Br.mk<;>intro _)))
   (refine goM (hopen d' _ hI') (hs') ?_)
   rintro _ _ G2 ⟨j,C,rec,rfl,rfl,hrec⟩ hs2
   have hs2:Sep (zf p d'::za j C::SlA 1 rec (want.map .str)::SlA 1 x (want.map .str)::R) G2:=hs2
   refine goS trivial ?_
   (refine goX trivial ?_;(repeat' (with_reducible apply Br.mk<;>intro _)))
   (refine goM (zfm) ((show Sep ([]++_) G2 from hs2)) ?_)
   rintro _ _ G3 ⟨rfl,rfl⟩ hs3
   have hs3:Sep (zf p d'::za j C::SlA 1 rec (want.map .str)::SlA 1 x (want.map .str)::R) G3:=hs3
   refine goS trivial ?_
   (refine goX trivial ?_;(repeat' (with_reducible apply Br.mk<;>intro _)))
   (refine goM (hrec) (hs3.tail) ?_)
   rintro _ _ G4 ⟨x2,rfl,rfl⟩ hs4
   have hs4:Sep (SlA 1 x2 (want.map .str)::za j C::SlA 1 rec (want.map .str)::SlA 1 x (want.map .str)::R) G4:=hs4
   have hSame:=zmx want want (by omega) (by omega) hs4.gv.lend hs4.f4.gv.lend
   rw [decide_eq_true rfl] at hSame
   refine goS trivial ?_
   (refine zb5 trivial (hSame) ?_;(repeat' (with_reducible apply Br.mk<;>intro _)))
   exact Fin.eq rfl ⟨rfl,_,.refl _,rfl⟩
 have hk3:k<harm.length:=by omega
 have hall:(harm.map eU).all (zb 1)=true:=by rw [List.all_map,List.all_eq_true];intro x _;rfl
 have hkI:((k:Int)<(harm.length:Int))=True:=eq_true (by omega)
 have hmem:harm[k]∈harm:=List.getElem_mem hk3
 obtain ⟨h,hh0⟩:∃ h,harm[k]=h:=⟨_,rfl⟩
 rw [hh0] at hmem
 have hlt:=hh h hmem
 obtain ⟨s,hsd⟩:∃ s,s=k % 2:=⟨_,rfl⟩
 obtain ⟨pr,hpr⟩:∃ pr,pr=k / 2:=⟨_,rfl⟩
 have e95:(k:Int).tmod 2=(s:Int):=by rw [Int.tmod_eq_emod_of_nonneg (by omega)];omega
 have e98:(k:Int).tdiv 2=(pr:Int):=by rw [Int.tdiv_eq_ediv_of_nonneg (by omega)];omega
 have hs2:s<2:=by omega
 by_cases c1:half≤2 * pr+1
 · have c1':((half:Int)≤2 * (pr:Int)+1)=True:=eq_true (by omega)
   (refine goX (nn hkI (nn hall (nn hh0 (nn e95 (nn e98 (nn hd2 c1')))))) ?_;(repeat' (with_reducible apply Br.mk<;>intro _)))
   refine ⟨_,_,?_,z2 rfl,k+1,d',G',b19,by omega,rfl,hI'.skip,hs',rfl⟩
   omega
 have c1':((half:Int)≤2 * (pr:Int)+1)=False:=eq_false (by omega)
 have hkk:k=2 * pr+s:=by omega
 obtain ⟨c,hc⟩:∃ c,c=h / 2 % 2:=⟨_,rfl⟩
 have f1:=z82 h (k:=1) (by decide)
 have f2:=zw1 (a:=h / 2 ^ 1) (by omega)
 have f2:zar .and (.int .u16 ((h / 2 ^ 1:Nat):Int)) (.int .u16 1)=some (.int .u16 (c:Int)):=by rw [f2,hc]
 have f3:=zw1 hlt
 obtain ⟨v4,hv4,f4⟩:=z34 hlt
 have f5:=z82 h (k:=3) (by decide)
 obtain ⟨bit,hbit⟩:∃ bit,bit=h / 2 ^ 3 % 512:=⟨_,rfl⟩
 have e131:((h / 2 ^ 3:Nat):Int).tmod 512=(bit:Int):=by rw [Int.tmod_eq_emod_of_nonneg (by omega)];omega
 have e1':((1:Nat):Int)=1:=rfl
 have e3':((3:Nat):Int)=3:=rfl
 rw [e1'] at f1
 rw [e3'] at f5
 have hq1:h / 2 ^ 1<65536:=by omega
 have hq3:h / 2 ^ 3<65536:=by omega
 generalize h / 2 ^ 1=w1 at *
 generalize h / 2 ^ 3=w3 at *
 obtain ⟨i,hi⟩:∃ i,i=s * half+2 * pr+c:=⟨_,rfl⟩
 have hib:i=pAt half s pr∨i=pAt half s pr+1:=by unfold pAt;omega
 have eA:(s:Int) * (half:Int)+2 * (pr:Int)+(c:Int)=(i:Int):=by rw [hi];push_cast;rfl
 have hsb:(s:Int) * (half:Int)≤100∧0≤(s:Int) * (half:Int):=by
  rcases (by omega:s=0∨s=1) with h|h<;>rw [h]<;>omega
 have hil:i<d'.cs.length:=by
  rw [hI'.len,hN,hi]
  rcases (by omega:s=0∨s=1) with h|h<;>rw [h]<;>omega
 by_cases c2:h % 2=0
 · have c2':(((h % 2:Nat):Int)=0)=True:=eq_true (by omega)
   (refine goX (nn hkI (nn hall (nn hh0 (nn e95 (nn e98 (nn hd2 (nn c1' (nn f1 (nn f2 (nn f3 (nn eA c2'))))))))))) ?_;(repeat' (with_reducible apply Br.mk<;>intro _)))
   refine ⟨_,_,?_,z2 rfl,k+1,d',G',b19,by omega,rfl,hI'.skip,hs',rfl⟩
   omega
 have c2':(((h % 2:Nat):Int)=0)=False:=eq_false (by omega)
 have hcell:zez d' i (W0 s pr):=by
  obtain ⟨a,b⟩:=hI'.rest s pr hs2 (by omega) (by omega)
  rcases hib with e|e<;>rw [e]<;>assumption
 by_cases c3:v4=0
 · have c3':((v4:Int)=0)=True:=eq_true (by omega)
   (refine goX (nn hkI (nn hall (nn hh0 (nn e95 (nn e98 (nn hd2 (nn c1' (nn f1 (nn f2 (nn f3 (nn f4 (nn eA (nn c2' c3'))))))))))))) ?_;(repeat' (with_reducible apply Br.mk<;>intro _)))
   obtain ⟨o1,o2,o3,o4,o5,o6,o7⟩:=zpb hI'.ok hI'.live hil
   have hop:d'.cs[i].op=[]:=by
    have h1:d'.cs[i]?=some ⟨W0 s pr,false,[]⟩:=hcell
    rw [List.getElem?_eq_getElem hil] at h1
    rw [Option.some.inj h1]
   have o7:=o7 hop
   have hI2:=hI'.step (d':=(rot d' (i:Int)).1) hkk hs2 (by omega) hib o1 o3 (o4.trans hI'.len) (by rw [o5];exact hI'.st) o6 (fun h _=>o7 h)
   (refine goM (zqo p d' (i:Int)) (hs') ?_)
   rintro _ _ G2 ⟨rfl,rfl⟩ hs3
   refine goS trivial ?_
   (refine goX trivial ?_;(repeat' (with_reducible apply Br.mk<;>intro _)))
   refine ⟨_,_,?_,z2 rfl,k+1,_,G2,b19,by omega,rfl,hI2,hs3,rfl⟩
   omega
 have c3':((v4:Int)=0)=False:=eq_false (by omega)
 obtain ⟨o1,o2,o3,o4,o5,o6⟩:=zxf hI'.ok hI'.live hil (bit:=(bit:Int)) (by omega)
 (refine goX (nn hkI (nn hall (nn hh0 (nn e95 (nn e98 (nn hd2 (nn c1' (nn f1 (nn f2 (nn f3 (nn f4 (nn f5 (nn eA (nn c2' (nn c3' e131))))))))))))))) ?_;(repeat' (with_reducible apply Br.mk<;>intro _)))
 (refine goM (z3b p d' (i:Int) (bit:Int)) (hs') ?_)
 rintro _ _ G2 ⟨rfl,rfl⟩ hs3
 have hst:=hI'.step (d':=(flp d' (i:Int) (bit:Int)).1) hkk hs2 (by omega) hib o1 o3 (o4.trans hI'.len) (by rw [o5];exact hI'.st) o6
 obtain ⟨d2,hd2e⟩:∃ d2,d2=(flp d' (i:Int) (bit:Int)).1:=⟨_,rfl⟩
 simp only [← hd2e] at hs3 hst
 have hs3:Sep (zf p d2::SlA 1 x (want.map .str)::R) G2:=hs3
 have hread:=(zv6 p d2 (i:Int)).q hs3
 have hsx:=zt (rd d2 (i:Int)).1
 generalize (rd d2 (i:Int)).1=sx at *
 generalize (rd d2 (i:Int)).2=fx at *
 have z64:List.drop 64 (zr 64 (D.int .u8 0))=[]:=rfl
 by_cases cf:fx=0
 case neg =>
  have cf':=eq_false cf
  refine goS trivial ?_
  (refine zb5 (nn hsx (nn z64 cf')) (hread) ?_;(repeat' (with_reducible apply Br.mk<;>intro _)))
  refine ⟨_,_,?_,z2 rfl,k+1,d2,G2,_,by omega,rfl,hst (fun h _=>cf h),hs3,rfl⟩
  omega
 have cf':=eq_true cf
 have hst:=hst
 by_cases cp:pr=0
 · have cp':((pr:Int)=0)=True:=eq_true (by omega)
   have cp2:(0<(pr:Int))=False:=eq_false (by omega)
   have hH:=zq4 sx s (by omega)
   have hpT:pT s pr sx=isH sx s:=if_pos cp
   rw [hpT] at hst
   generalize isH sx s=v at *
   cases v with
   | true =>
    refine goS trivial ?_
    (refine zgj (nn hsx (nn z64 (nn cf' (nn cp' cp2)))) (hread) (hH) ?_;(repeat' (with_reducible apply Br.mk<;>intro _)))
    (refine goM (zfm) ((show Sep ([]++_) G2 from hs3)) ?_)
    rintro _ _ G3 ⟨rfl,rfl⟩ hs4
    refine goS trivial ?_
    (refine goX trivial ?_;(repeat' (with_reducible apply Br.mk<;>intro _)))
    exact Fin.eq rfl ⟨rfl,_,.refl _,rfl⟩
   | false =>
    refine goS trivial ?_
    (refine zgj (nn hsx (nn z64 (nn cf' (nn cp' cp2)))) (hread) (hH) ?_;(repeat' (with_reducible apply Br.mk<;>intro _)))
    refine ⟨_,_,?_,z2 rfl,k+1,d2,G2,_,by omega,rfl,hst (fun _ h=>by cases h),hs3,rfl⟩
    omega
 · have cp':((pr:Int)=0)=False:=eq_false (by omega)
   have cp2:(0<(pr:Int))=True:=eq_true (by omega)
   have hH:=zmu sx s (pr - 1) (by omega) (by omega)
   have ep:(pr:Int) - 1=((pr - 1:Nat):Int):=by omega
   have hpT:pT s pr sx=isF sx s (pr - 1):=if_neg cp
   rw [hpT] at hst
   generalize isF sx s (pr - 1)=v at *
   cases v with
   | true =>
    refine goS trivial ?_
    (refine zgj (nn hsx (nn z64 (nn cf' (nn cp' (nn cp2 ep))))) (hread) (hH) ?_;(repeat' (with_reducible apply Br.mk<;>intro _)))
    (refine goM (zfm) ((show Sep ([]++_) G2 from hs3)) ?_)
    rintro _ _ G3 ⟨rfl,rfl⟩ hs4
    refine goS trivial ?_
    (refine goX trivial ?_;(repeat' (with_reducible apply Br.mk<;>intro _)))
    exact Fin.eq rfl ⟨rfl,_,.refl _,rfl⟩
   | false =>
    refine goS trivial ?_
    (refine zgj (nn hsx (nn z64 (nn cf' (nn cp' (nn cp2 ep))))) (hread) (hH) ?_;(repeat' (with_reducible apply Br.mk<;>intro _)))
    refine ⟨_,_,?_,z2 rfl,k+1,d2,G2,_,by omega,rfl,hst (fun _ h=>by cases h),hs3,rfl⟩
    omega
end Go.Proofs.YtpplfpnjfjnkdaaGreatDoor
namespace Go.Proofs.YtpplfpnjfjnkdaaGreatDoor
open Go Go.E2 C22 C23 CW
set_option maxHeartbeats 16000000
theorem zw2 {l:List (List UInt8)} (h:zo7 l=true):l.length≤12∧∀ s∈l,s.length≤1100:=by
 unfold zo7 at h
 rw [Bool.and_eq_true] at h
 exact ⟨of_decide_eq_true h.1,fun s hs=>of_decide_eq_true (List.all_eq_true.1 h.2 s hs)⟩
theorem z84 (p:Nat) (n half N b0 s1:Nat) (recs:List (List UInt8)) (hhalf:half=n / 2) (h8:8≤n) (hN:N=n) (hb0:b0≤1) (hs1:s1≤2) (hq:npL recs≤half / 2 - 1) (hr:recs.length≤1000) (d:Dk) (k:Nat)
 (hI:zk7 d N half k (pX (mkH 1 b0 0) z0 (C23.XL 1 s1 0 (lkA b0) (zbs recs)) (fun _=>z0))) :
 zap Tryz.prog f_zz79 [.gp p 0,eI 0,eI (n:Int)] [zf p d] (fun r post=>∃ j C rec,r=.tup [.gp j 0,eI 0]∧post=[zf p d,za j C,SlA 1 rec (recs.map .str)] ∧
  zap Tryz.prog f_zz7 [.gp j 0] [za j C,SlA 1 rec (recs.map .str)] (fun r post=>∃ x,r=.d x∧post=[SlA 1 x (recs.map .str),za j C,SlA 1 rec (recs.map .str)])):=by
 obtain ⟨a,b⟩:=hI.sides (by omega)
 refine zap.mono (zmw p d (n:Int) half (by omega) (zt1 hI.live (by omega) (by rw [hI.len];omega)) (b0:=b0) (s1:=s1) (B:=3) (recs:=recs) a b (by omega) (by omega) (by decide) hq) fun r post=>?_
 rintro ⟨j,rec,ses,_,rfl,rfl⟩
 exact ⟨j,_,rec,rfl,rfl,zb3 p j _ _ _ _ _ _ _ rec recs (zbp _ _ (zc4 _)) (by omega)⟩
theorem openB (p:Nat) (n half N b0 s1 s2:Nat) (old recs:List (List UInt8)) (hhalf:half=n / 2) (h8:8≤n) (hN:N=n) (hb0:b0≤1) (hs1:s1≤2) (hs2:s2≤2) (hq:npL recs≤half / 2 - 1) (hr:recs.length≤1000) (d:Dk) (k:Nat)
 (hI:zk7 d N half k (pX (mkH 1 b0 0) (mkH 2 s2 1) (C23.XL 1 s1 0 (lkA b0) (zbs old)) (C23.XL 2 s2 1 (lkB s2) (zbs recs)))) :
 zap Tryz.prog f_zz79 [.gp p 0,eI 0,eI (n:Int)] [zf p d] (fun r post=>∃ j C rec,r=.tup [.gp j 0,eI 0]∧post=[zf p d,za j C,SlA 1 rec (recs.map .str)] ∧
  zap Tryz.prog f_zz7 [.gp j 0] [za j C,SlA 1 rec (recs.map .str)] (fun r post=>∃ x,r=.d x∧post=[SlA 1 x (recs.map .str),za j C,SlA 1 rec (recs.map .str)])):=by
 obtain ⟨a,b⟩:=hI.sides (by omega)
 refine zap.mono (zwx p d (n:Int) half (by omega) (zt1 hI.live (by omega) (by rw [hI.len];omega)) (b0:=b0) (s2:=s2) (B:=3) (recs:=recs) a b (by omega) (fun k _=>zsy (zc4 _) (by decide) (by omega) (zim _).1 (by omega) k) (by omega) (by decide) hq) fun r post=>?_
 rintro ⟨j,rec,ses,_,rfl,rfl⟩
 exact ⟨j,_,rec,rfl,rfl,zb3 p j _ _ _ _ _ _ _ rec recs (zbp _ _ (zc4 _)) (by omega)⟩
theorem zq6 (size:UInt8) (l0 l1:List (List UInt8)) (harm:List Nat) (h0:l0.length≤9223372036854775807) (h1:l1.length≤9223372036854775807) (hh:∀ h∈harm,h<65536) :
 zn Tryz.prog f_zz0 [eB size,.agg [.list (l0.map .str),.list (l1.map .str)],.list (harm.map eU)] (·=.d (.bool true)):=by
 refine zn.of_deep (zi fol zz0_cp ?_)
 have hs0:Sep ([]++[]) noGh:=trivial
 have hfew:=z81 l0 l1 h0 h1
 have hel:([l0,l1].map eOp)=[.agg [.int .u8 0,.str [],.list (l0.map .str),.int .i64 0,.int .i64 0,.nilS],.agg [.int .u8 0,.str [],.list (l1.map .str),.int .i64 0,.int .i64 0,.nilS]]:=rfl
 rw [hel] at hfew
 by_cases hf:(zo7 l0 && zo7 l1)=true∧harm.length≤40
 case neg =>
  by_cases hf1:(zo7 l0 && zo7 l1)=true
  · have hf2:¬ harm.length≤40:=fun h=>hf ⟨hf1,h⟩
    have hb':(40<(harm.length:Int))=True:=eq_true (by omega)
    rw [hf1] at hfew
    refine goS trivial ?_
    (refine zb5 hb' (hfew) ?_;(repeat' (with_reducible apply Br.mk<;>intro _)))
    (refine goM (zfm) (hs0) ?_)
    rintro _ _ G3 ⟨rfl,rfl⟩ hs4
    refine goS trivial ?_
    (refine goX trivial ?_;(repeat' (with_reducible apply Br.mk<;>intro _)))
    exact Fin.eq rfl ⟨rfl,_,.refl _,rfl⟩
  · rw [Bool.not_eq_true] at hf1
    rw [hf1] at hfew
    refine goS trivial ?_
    (refine zb5 trivial (hfew) ?_;(repeat' (with_reducible apply Br.mk<;>intro _)))
    (refine goM (zfm) (hs0) ?_)
    rintro _ _ G3 ⟨rfl,rfl⟩ hs4
    refine goS trivial ?_
    (refine goX trivial ?_;(repeat' (with_reducible apply Br.mk<;>intro _)))
    exact Fin.eq rfl ⟨rfl,_,.refl _,rfl⟩
 obtain ⟨hf1,hf2⟩:=hf
 rw [hf1] at hfew
 rw [Bool.and_eq_true] at hf1
 obtain ⟨a1,a2⟩:=zw2 hf1.1
 obtain ⟨b1,b2⟩:=zw2 hf1.2
 have hb':(40<(harm.length:Int))=False:=eq_false (by omega)
 have hsz:=UInt8.toNat_lt size
 obtain ⟨n,hn⟩:∃ n,n=8+size.toNat % 32:=⟨_,rfl⟩
 obtain ⟨half,hhalf⟩:∃ half,half=n / 2:=⟨_,rfl⟩
 have e40:(size.toNat:Int).tmod 32=((size.toNat % 32:Nat):Int):=by rw [Int.tmod_eq_emod_of_nonneg (by omega)];omega
 have e41:8+((size.toNat % 32:Nat):Int)=(n:Int):=by omega
 have hn2:n≤39:=by omega
 have hn8:8≤n:=by omega
 refine goS trivial ?_
 (refine zb5 (nn hb' (nn e40 e41)) (hfew) ?_;(repeat' (with_reducible apply Br.mk<;>intro _)))
 (refine goM (zv4 (n:Int) (by omega) (by omega)) (hs0) ?_)
 rintro _ _ G1 ⟨p,rfl,rfl⟩ hs1
 have hs1:Sep (zf p (fresh n)::[]) G1:=hs1
 refine goS trivial ?_
 (refine goX trivial ?_;(repeat' (with_reducible apply Br.mk<;>intro _)))
 (refine goM (zwy p n (n:Int) half (by omega) (by omega) (by omega) (by omega)) (hs1) ?_)
 rintro _ _ G2 ⟨d1,b0,rfl,hb0,hst1,rfl⟩ hs2
 have hsd:=JT.sides (hst1 0) (by omega)
 have hpt:=zt1 (n:=(n:Int)) (hst1 0).lv.live (by omega) (by rw [(hst1 0).len];omega)
 refine goS trivial ?_
 (refine goX trivial ?_;(repeat' (with_reducible apply Br.mk<;>intro _)))
 (refine goM (zmw p d1 (n:Int) half (by omega) hpt (b0:=b0) (s1:=0) (B:=2) (recs:=[]) hsd.1 hsd.2 (by omega) (by omega) (by decide) (by simp [npL])) (hs2) ?_)
 rintro _ _ G3 ⟨j,rec,s1,hs1b,rfl,rfl⟩ hs3
 have hs3:Sep (zf p d1::za j (cA p half s1 b0 s1 [] rec)::SlA 1 rec (([]:List (List UInt8)).map .str)::[]) G3:=hs3
 have hJ1:=hst1 s1
 refine goS trivial ?_
 (refine goX trivial ?_;(repeat' (with_reducible apply Br.mk<;>intro _)))
 refine W.loop (fun m st=>∃ (k:Nat) (recs:List (List UInt8)) (d':Dk) (rec':D) (G':Gh),k≤l0.length∧m=l0.length - k∧recs.length≤k∧npL recs≤half / 2 - 1∧StA d' (5+100 * (k:Int)) n half b0 s1 recs ∧
  Sep (zf p d'::za j (cA p half s1 b0 s1 recs rec')::SlA 1 rec' (recs.map .str)::[]) G' ∧
  st=(E [(67,.d (eI k)),(66,.d (eI l0.length)),(65,.d (.list (l0.map .str))),(9,.d (.gp j 0)),(8,.d (.gp p 0)),(7,.d (eI n)),(4,.ptr 0 4 1 0),(2,.d (.list (harm.map eU)))],HB [(4,⟨1,some [.list (l0.map .str),.list (l1.map .str)]⟩)],[],G'))
  ⟨_,_,z2 rfl,0,[],d1,rec,G3,by omega,rfl,Nat.le_refl _,by simp [npL],by rw [show (5+100 * ((0:Nat):Int))=5 from rfl];exact hJ1,hs3,rfl⟩ ?_
 rintro m st ⟨k,recs,d',rec',G',hk,rfl,hrk,hrq,hJ,hs',rfl⟩
 by_cases hk2:k=l0.length
 case neg =>
  have hk3:k<l0.length:=by omega
  have hkI:((k:Int)<(l0.length:Int))=True:=eq_true (by omega)
  have hmem:l0[k]∈l0:=List.getElem_mem hk3
  obtain ⟨s,hs00⟩:∃ s,l0[k]=s:=⟨_,rfl⟩
  rw [hs00] at hmem
  have hsl:=a2 s hmem
  (refine goX (nn hkI hs00) ?_;(repeat' (with_reducible apply Br.mk<;>intro _)))
  (refine goM (zmv p j d' (5+100 * (k:Int)) n half b0 s1 recs rec' s hJ (by omega) (by omega) (by omega) (by omega) hrq (by omega) (by omega)) (hs') ?_)
  rintro _ _ G4 ⟨rec2,d2,rfl,hJ2,hq2,-,rfl⟩ hs4
  have hrl:(zt7 half recs s).length≤k+1:=by
   unfold zt7;split
   · rw [List.length_append];simp only [List.length_cons,List.length_nil];omega
   · omega
  refine goS trivial ?_
  (refine goX trivial ?_;(repeat' (with_reducible apply Br.mk<;>intro _)))
  refine ⟨_,_,?_,z2 rfl,k+1,zt7 half recs s,d2,rec2,G4,by omega,rfl,hrl,hq2,?_,hs4,rfl⟩
  · omega
  · rw [show (5+100 * ((k+1:Nat):Int))=5+100 * (k:Int)+100 by omega];exact hJ2
 subst hk2
 have hkI:((l0.length:Int)<(l0.length:Int))=False:=eq_false (by omega)
 obtain ⟨hJc,y4,syn4⟩:=hJ.syn (by omega)
 (refine goX hkI ?_;(repeat' (with_reducible apply Br.mk<;>intro _)))
 (refine goM (zo5 j p d' ((0:Nat):Int) half 1 s1 0 (npL recs) (lkE 1 s1 0 (lkA b0) 0 (zbs recs)) rec' (by have:=hJ.lv.st;omega)) (hs') ?_)
 rintro _ _ G7 ⟨rfl,rfl⟩ hs8
 rw [y4]
 obtain ⟨d4,hd4⟩:∃ d4,d4=(sy d').1:=⟨_,rfl⟩
 rw [← hd4] at hs8 hJc syn4
 have hs8:Sep (zf p d4::za j (cA p half s1 b0 s1 recs rec')::SlA 1 rec' (recs.map .str)::[]) G7:=hs8
 by_cases c1:0<l1.length
 case neg =>
  have c1':(0<(l1.length:Int))=False:=eq_false (by omega)
  refine goS trivial ?_
  (refine goX c1' ?_;(repeat' (with_reducible apply Br.mk<;>intro _)))
  (refine goM (zb3 p j ((0:Nat):Int) half 1 s1 0 (npL recs) (lkE 1 s1 0 (lkA b0) 0 (zbs recs)) rec' recs (zbp _ _ (zc4 _)) (by omega)) (hs8.b3) ?_)
  rintro _ _ G8 ⟨x,rfl,rfl⟩ hs9
  have hs9:Sep (SlA 1 x (recs.map .str)::za j (cA p half s1 b0 s1 recs rec')::SlA 1 rec' (recs.map .str)::zf p d4::[]) G8:=hs9
  refine goS trivial ?_
  refine W.weaken (z2 rfl) (zq5 p n half n hhalf hn8 hn2 harm hh hf2 x recs (by omega) _ d4 G8 _ _ rfl (zk7.start hJc syn4 (by omega)) (fun d2 k h=>z84 p n half n b0 s1 recs hhalf hn8 rfl hb0 hs1b hrq (by omega) d2 k h) (hs9.perm (l':=zf p d4::SlA 1 x (recs.map .str)::za j (cA p half s1 b0 s1 recs rec')::SlA 1 rec' (recs.map .str)::[]) pp))
 have c1':(0<(l1.length:Int))=True:=eq_true (by omega)
 refine goS trivial ?_
 (refine goX c1' ?_;(repeat' (with_reducible apply Br.mk<;>intro _)))
 (refine goM (z1h p j d4 (5+100 * (l0.length:Int)+1) n half b0 s1 s1 recs rec' l1 hJc (by omega) (by omega) (by omega) (by omega) (by omega) (fun s hs=>by have:=b2 s hs;omega) (by omega)) (hs8) ?_)
 rintro _ _ G8 ⟨rfl,⟨er,rec7,d7,hJ7,syn7,hq7,rfl⟩|⟨er,rfl⟩⟩ hs15
 · have hs15:Sep (za j (cB p half s1 s1 l1 rec7)::SlA 1 rec7 (l1.map .str)::zf p d7::SlA 1 rec' (recs.map .str)::[]) G8:=hs15.perm (l:=zf p d7::za j (cB p half s1 s1 l1 rec7)::SlA 1 rec7 (l1.map .str)::SlA 1 rec' (recs.map .str)::[]) pp
   refine goS trivial ?_
   (refine goX trivial ?_;(repeat' (with_reducible apply Br.mk<;>intro _)))
   (refine goM (zb3 p j ((0:Nat):Int) half 2 s1 1 (npL l1) (lkE 2 s1 1 (lkB s1) 0 (zbs l1)) rec7 l1 (zbp _ _ (zc4 _)) (by omega)) (hs15) ?_)
   rintro _ _ G9 ⟨x,rfl,rfl⟩ hs9
   have hs9:Sep (SlA 1 x (l1.map .str)::za j (cB p half s1 s1 l1 rec7)::SlA 1 rec7 (l1.map .str)::zf p d7::SlA 1 rec' (recs.map .str)::[]) G9:=hs9
   refine goS trivial ?_
   refine W.weaken (z2 rfl) (zq5 p n half n hhalf hn8 hn2 harm hh hf2 x l1 (by omega) _ d7 G9 _ _ rfl (zk7.start hJ7 syn7 (by omega)) (fun d2 k h=>openB p n half n b0 s1 s1 recs l1 hhalf hn8 rfl hb0 hs1b hs1b hq7 (by omega) d2 k h) (hs9.perm (l':=zf p d7::SlA 1 x (l1.map .str)::za j (cB p half s1 s1 l1 rec7)::SlA 1 rec7 (l1.map .str)::SlA 1 rec' (recs.map .str)::[]) pp))
 · have hs15:Sep (zf p d4::za j (cA p half s1 b0 s1 recs rec')::SlA 1 rec' (recs.map .str)::[]) G8:=hs15
   refine goS trivial ?_
   (refine goX trivial ?_;(repeat' (with_reducible apply Br.mk<;>intro _)))
   (refine goM (zb3 p j ((0:Nat):Int) half 1 s1 0 (npL recs) (lkE 1 s1 0 (lkA b0) 0 (zbs recs)) rec' recs (zbp _ _ (zc4 _)) (by omega)) (hs15.b3) ?_)
   rintro _ _ G9 ⟨x,rfl,rfl⟩ hs9
   have hs9:Sep (SlA 1 x (recs.map .str)::za j (cA p half s1 b0 s1 recs rec')::SlA 1 rec' (recs.map .str)::zf p d4::[]) G9:=hs9
   refine goS trivial ?_
   refine W.weaken (z2 rfl) (zq5 p n half n hhalf hn8 hn2 harm hh hf2 x recs (by omega) _ d4 G9 _ _ rfl (zk7.start hJc syn4 (by omega)) (fun d2 k h=>z84 p n half n b0 s1 recs hhalf hn8 rfl hb0 hs1b hrq (by omega) d2 k h) (hs9.perm (l':=zf p d4::SlA 1 x (recs.map .str)::za j (cA p half s1 b0 s1 recs rec')::SlA 1 rec' (recs.map .str)::[]) pp))
end Go.Proofs.YtpplfpnjfjnkdaaGreatDoor
namespace Go.Proofs.YtpplfpnjfjnkdaaGreatDoor
open Go Go.E2 CW CH
open Go.ChangeShapes Go.WideShapes Go.ChangeAt Go.RowKit
theorem zq7 {α:Type} {f:α→D} {es:List D} {P:D→Prop} (hP:∀ d,P d→∃ a,d=f a) (h:∀ d∈es,P d):∃ l:List α,es=l.map f:=by
 induction es with
 | nil=>exact ⟨[],rfl⟩
 | cons e es ih =>
  obtain ⟨l,hl⟩:=ih fun d hd=>h d (List.mem_cons_of_mem _ hd)
  obtain ⟨a,ha⟩:=hP e (h e List.mem_cons_self)
  exact ⟨a::l,by rw [List.map_cons,ha,hl]⟩
theorem wf_u8 {n:Int} (h:(Lit.int .u8 n).wf=true):0≤n∧n<256:=by
 have:0≤n∧n≤255:=by simpa [Lit.wf,IntKind.min,IntKind.max,IntKind.signed,IntKind.bits] using h
 omega
theorem own:ownKnob Tryz.prog.godebug=none:=by kernel_rfl
theorem gRef : Tryz.prog.globalNamed "quietus/quietusref02.constants" = some 0 := by kernel_rfl
theorem z85 : Tryz.prog.globalNamed "quietus/hash.constants" = some 1 := by kernel_rfl
theorem gRefT:(Tryz.prog.globals[0]?).map (·.type)=some 192:=by kernel_rfl
theorem z86:(Tryz.prog.globals[1]?).map (·.type)=some 192:=by kernel_rfl
theorem zsm:Tryz.prog.cellsOf 192=64:=by kernel_rfl
theorem zw3:Tryz.prog.cellsOf 173=1:=by kernel_rfl
abbrev z35 : List (String × DataW Unit) := [("quietus/quietusref02.constants", Rows.laid_quietus_quietusref02_constants), ("quietus/hash.constants", Rows.laid_quietus_hash_constants)]
theorem zw4:(Rows.laid_quietus_quietusref02_constants:DataW Unit)=Lib.tabData .u32 k256:=by kernel_rfl
theorem zo8:(Rows.laid_quietus_hash_constants:DataW Unit)=Lib.tabData .u32 k256:=by kernel_rfl
theorem zzx {W:World} (h:laidMetH Tryz.prog z35 W):zoo (stb W):=by
 have h1 : Lib.TabIs Tryz.prog W "quietus/quietusref02.constants" .u32 k256 := by
  have hk : z35 = ("quietus/quietusref02.constants", Lib.tabData .u32 k256) :: [("quietus/hash.constants", Lib.tabData .u32 k256)] := by
   show [("quietus/quietusref02.constants", Rows.laid_quietus_quietusref02_constants), ("quietus/hash.constants", Rows.laid_quietus_hash_constants)] = _
   rw [zw4,zo8]
  have h':laidMet Tryz.prog z35 W:=h
  rw [hk] at h'
  exact Lib.tabIs_of_head gRef gRefT Tryz.underlying192 Tryz.underlying173 zw3 zsm h'
 have h2 : Lib.TabIs Tryz.prog W "quietus/hash.constants" .u32 k256 := by
  have h' := laidMetH.filter (fun x => x.1 == "quietus/hash.constants") h
  have h'' : laidMet Tryz.prog [("quietus/hash.constants", Rows.laid_quietus_hash_constants)] W := h'
  rw [zo8] at h''
  exact Lib.tabIs_of_head z85 z86 Tryz.underlying192 Tryz.underlying173 zw3 zsm h''
 have key:∀ (g:Nat),(∀ i,i<k256.length→W.cell? ⟨g,i,none⟩=some (.int .u32 (k256.getD i 0)))→∃ c:List Value,z6 (stb W) (k256.map (D.int .u32)) c∧(k256.map (D.int .u32)).all D.one=true∧∀ (j:Nat) (u:Value),c[j]?=some u→stb W ⟨g,j,none⟩=some u:=fun g hg=>by
  refine ⟨k256.map (Value.int .u32),⟨by simp,fun j x v hx hv=>?_⟩,by rfl,fun j u hu=>?_⟩
  · rw [List.getElem?_map] at hx hv
    cases hj:k256[j]? with
    | none=>rw [hj] at hx;cases hx
    | some n=>rw [hj] at hx hv;cases hx;cases hv;exact VRD.int _ _
  · have hj:j<k256.length:=by
     have:=(List.getElem?_eq_some_iff.1 hu).1
     rwa [List.length_map] at this
    rw [List.getElem?_map,List.getElem?_eq_getElem hj] at hu
    cases hu
    show W.cell? ⟨g,j,none⟩=_
    rw [hg j hj,List.getD_eq_getElem?_getD,List.getElem?_eq_getElem hj];rfl
 intro g cs e
 unfold z78 at e
 split at e
 · cases e;exact key 0 fun i hi=>h1.cell gRef i hi
 · cases e;exact key 1 fun i hi=>h2.cell z85 i hi
 · cases e
def putK:Obj→Obj
 | .cells _ t frozen=>.cells (k256.map (Value.int .u32)).toArray t frozen
 | o=>o
noncomputable def laidWorld (os:Os):World :=
 { World.holding Tryz.prog os ⟨#[],#[],[]⟩ with heap:=((World.holding Tryz.prog os ⟨#[],#[],[]⟩).heap.modify 0 putK).modify 1 putK }
end Go.Proofs.YtpplfpnjfjnkdaaGreatDoor
