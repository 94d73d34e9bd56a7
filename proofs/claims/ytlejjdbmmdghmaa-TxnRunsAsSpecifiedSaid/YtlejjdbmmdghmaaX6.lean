/-
 Layer 40 (txn): Prepare,its tests.
 Conditions: of each contract as it says.
-/
import Derived.Test.YtlejjdbmmdghmaaX3
set_option linter.unusedSimpArgs false
namespace Go.Proofs.Ytlejjdbmmdghmaa
open Go Go.E2 C22 C40
set_option maxHeartbeats 2000000
structure Shp (n:Nat) (c:List Str):Prop where
 n1:1≤n
 n16:n≤16
 len:c.length=2 * n+4
 fit:∀ b∈c,b.length≤55
 vals:∀ k,k<n→c[2 * k]?=some []∨∃ b,c[2 * k]?=some b∧6≤b.length
theorem Shp.get {n:Nat} {c:List Str} (h:Shp n c) {k:Int} (h0:0≤k) (h1:k<n):(getR n c k).2.2=0:=by
 obtain ⟨j,rfl⟩:=Int.eq_ofNat_of_zero_le h0
 unfold getR
 rw [if_neg (by omega),Int.toNat_natCast]
 rcases h.vals j (by omega) with e|⟨b,e,hb⟩
 · rw [e];rfl
 · rw [e]
   simp only
   by_cases hb0:b=[]
   · rw [if_pos hb0]
   · rw [if_neg hb0,if_neg (by omega)]
def zhl (n:Nat) (ws:List (Int×Wr)) (t:Nat):Bool:=ws.any fun p=>decide (p.2.slot=((2 * n+t:Nat):Int))
def za1 (n:Nat) (ws:List (Int×Wr)):Nat:=if zhl n ws 0=false then 0 else if zhl n ws 1=false then 1 else if zhl n ws 2=false then 2 else if zhl n ws 3=false then 3 else 4
def InS (n:Nat) (ws:List (Int×Wr)):Prop:=∀ p∈ws,2 * (n:Int)≤p.2.slot∧p.2.slot<2 * (n:Int)+4
theorem InS.four {n:Nat} {ws:List (Int×Wr)} (h:InS n ws):zhl n ws 4=false:=by
 unfold zhl
 rw [List.any_eq_false]
 intro p hp
 have:=h p hp
 simp only [decide_eq_true_eq]
 omega
theorem zr1 (n:Nat) (ws:List (Int×Wr)):za1 n ws≤4:=by unfold za1;(repeat' split)<;>omega
theorem zr2 {n:Nat} {ws:List (Int×Wr)} (h:InS n ws):zhl n ws (za1 n ws)=false:=by
 unfold za1
 (repeat' split)<;>first|assumption|exact h.four
theorem zr3 {n:Nat} {ws:List (Int×Wr)} {t:Nat} (h:t<za1 n ws):zhl n ws t=true:=by
 unfold za1 at h
 (repeat' split at h)<;>(first|(exfalso;omega)|(rcases (by omega:t=0∨t=1∨t=2∨t=3) with rfl|rfl|rfl|rfl<;>first|(exfalso;omega)|simp_all))
def stale (n:Nat) (c:List Str) (l:List Tw):Bool:=l.any fun x=>decide ((getR n c x.key).1≠x.ver)
def prepE (n:Nat) (c:List Str) (ws:List (Int×Wr)) (id:Int) (l:List Tw):Int :=
 if id<1∨1099511627776<id∨¬ Rgt n l then 1 else if (zbo ws id).isSome then 9 else if l.any (zez ws) then 4 else if stale n c l then 15 else if za1 n ws=4 then 13 else 0
def zc3 (id:Nat):List Tw→List Str→List Str
 | [],c=>c
 | x::l,c=>zc3 id l (if x.rd then c else c.set (2 * x.key.toNat+1) (zeg id++zeg (x.ver.toNat+1)++x.val))
def keyB (x:Tw):UInt8:=UInt8.ofNat (x.key.toNat+if x.rd then 128 else 0)
def zdc (id:Nat) (st:UInt8) (l:List Tw):Str:=zeg id++st::l.map keyB
def zif (n:Nat) (c:List Str) (ws:List (Int×Wr)) (id:Nat) (l:List Tw):List Str:=(zc3 id l c).set (2 * n+za1 n ws) (zdc id 1 l)
def zou (n:Nat) (ws:List (Int×Wr)) (id:Int) (l:List Tw):List (Int×Wr):=zjz ws id ⟨((2 * n+za1 n ws:Nat):Int),l⟩
theorem zhm (id:Nat):∀ (l:List Tw) (c:List Str),(zc3 id l c).length=c.length
 | [],c=>rfl
 | x::l,c=>by rw [zc3,zhm id l];split<;>simp
theorem zov (id:Nat):∀ (a b:List Tw) (c:List Str),zc3 id (a++b) c=zc3 id b (zc3 id a c)
 | [],b,c=>rfl
 | x::a,b,c=>by rw [List.cons_append,zc3,zc3,zov id a b]
theorem zwq (id:Nat) (st:UInt8) (a b:List Tw):zdc id st (a++b)=zdc id st a++b.map keyB:=by simp [zdc]
theorem z50 {k:Nat} (hk:k<16):zb6 .or (.int .u8 (k:Int)) (.int .u8 128)=some (.int .u8 ((k+128:Nat):Int)):=by
 have h:=zxy 8 (a:=(k:Int)) (b:=128) (by omega) (by omega) (by omega) (by omega)
 have e:k ||| 128=k+128:=by
  have h2:128+k=128 ||| k:=Nat.two_pow_add_eq_or_of_lt (i:=7) (b:=k) (by omega) 1
  rw [Nat.or_comm,← h2];omega
 simp only [zb6,if_true]
 have hb':IntKind.u8.bits=8:=rfl
 rw [hb',h,Int.toNat_natCast]
 have e2:(128:Int).toNat=128:=rfl
 rw [e2,e,zpj (by omega) (by omega)]
attribute [go_sem] za4
theorem zmw (s:Str) (b:Nat) (hb:b<256) (hs:s.length≤1000):zbc 1 1 (.own 1 (s.map eB)) (.list [.int .u8 (b:Int)])=some (.own 1 ((s++[UInt8.ofNat b]).map eB)):=by
 rw [zel 1 1 _ _ (by decide) (by rw [zo,List.length_map];simp only [List.length_cons,List.length_nil];omega)]
 rw [if_pos (by rfl),List.map_append]
 have:eB (UInt8.ofNat b)=.int .u8 (b:Int):=by
  unfold eB
  rw [UInt8.toNat_ofNat']
  congr 1
  omega
 simp only [List.map_cons,List.map_nil,this]
theorem zwr {mr:Nat} {ws:List (Int×Wr)} {R:List As} {G:Gh} (h:Sep (MwA mr ws::R) G) (id:Int) :
 gdD (.mlook [.i] (.agg [.int .i64 0,.nilS]) true) [.mref mr,.int .i64 id] G=some (.tup [((zbo ws id).map eWr).getD (.agg [.int .i64 0,.nilS]),.bool (zbo ws id).isSome],G):=(Sep.map h).look2 _ id
theorem ztg (sb n:Nat) (m:Int) (c:List Str) (ws:List (Int×Wr)) (hc:Shp n c) (hw:z10 ws) (hin:InS n ws) (hm:m≤500000000) (id:Int) (l:List Tw) (hL:l.length≤9223372036854775807) :
 zy Try.prog f_zz35 [.gp sb 0,.int .i64 id,eL l] [zee sb n m c ws] (fun r post=>r=.d (.int .i64 (prepE n c ws id l)) ∧
  post=[zee sb n (m+200) (if prepE n c ws id l=0 then zif n c ws id.toNat l else c) (if prepE n c ws id l=0 then zou n ws id l else ws)]):=by
 refine zg fol zz35_cp fun R G σ hs=>?_
 have bad:∀ k:Int,prepE n c ws id l=k→k≠0→∀ {G:Gh},Sep (zee sb n m c ws::R) G→∃ post,(AV.d (.int .i64 k)=.d (.int .i64 (prepE n c ws id l)) ∧
  post=[zee sb n (m+200) (if prepE n c ws id l=0 then zif n c ws id.toNat l else c) (if prepE n c ws id l=0 then zou n ws id l else ws)])∧Sep (post++R) G:=fun k hk hk0 G h=>by
  refine ⟨_,⟨by rw [hk],rfl⟩,?_⟩
  rw [if_neg (by rw [hk];exact hk0),if_neg (by rw [hk];exact hk0)]
  exact Sep.sit_mono (by omega) h
 by_cases c1:id<1
 · have e:prepE n c ws id l=1:=by unfold prepE;rw [if_pos (.inl c1)]
   refine goS trivial ?_
   (refine goX c1 ?_;(repeat' (with_reducible apply Br.mk<;>intro _)))
   exact Fin.eq rfl ⟨rfl,bad 1 e (by decide) hs⟩
 have c1':(id<1)=False:=eq_false c1
 by_cases c2:1099511627776<id
 · have e:prepE n c ws id l=1:=by unfold prepE;rw [if_pos (.inr (.inl c2))]
   refine goS trivial ?_
   (refine goX (nn c1' c2) ?_;(repeat' (with_reducible apply Br.mk<;>intro _)))
   exact Fin.eq rfl ⟨rfl,bad 1 e (by decide) hs⟩
 have c2':(1099511627776<id)=False:=eq_false c2
 obtain ⟨q,mr,h1⟩:=Sep.sit hs
 have h1:Sep (SiA sb q mr n::zaw q m c::MwA mr ws::R) G:=h1
 refine goS trivial ?_
 (refine goX (nn c1' c2') ?_;(repeat' (with_reducible apply Br.mk<;>intro _)))
 (refine goM (zy1 sb q mr n hc.n16 l hL) (h1) ?_)
 rintro _ _ G1 ⟨rfl,rfl⟩ h2
 have h2:Sep (SiA sb q mr n::zaw q m c::MwA mr ws::R) G1:=h2
 by_cases c3:Rgt n l
 case neg =>
  have e:prepE n c ws id l=1:=by unfold prepE;rw [if_pos (.inr (.inr c3))]
  rw [decide_eq_false c3]
  refine goS trivial ?_
  (refine goX trivial ?_;(repeat' (with_reducible apply Br.mk<;>intro _)))
  exact Fin.eq rfl ⟨rfl,bad 1 e (by decide) (Sep.of_sit h2)⟩
 rw [decide_eq_true c3]
 have hg2:=Sep.get (b:=sb) (cs:=[eSt q,.int .i64 n,.mref mr]) h2
 have hlk:=zwr h2.tail.tail id
 have hE:prepE n c ws id l=if (zbo ws id).isSome then 9 else if l.any (zez ws) then 4 else if stale n c l then 15 else if za1 n ws=4 then 13 else 0:=by
  unfold prepE;rw [if_neg (by rintro (h|h|h)<;>first|omega|exact h c3)]
 cases c4:zbo ws id with
 | some w =>
  have e:prepE n c ws id l=9:=by rw [hE,c4];rfl
  rw [c4] at hlk
  have hlk:gdD (.mlook [.i] (.agg [.int .i64 0,.nilS]) true) [.mref mr,.int .i64 id] G1=some (.tup [eWr w,.bool true],G1):=hlk
  refine goS trivial ?_
  (refine goX (nn hg2 hlk) ?_;(repeat' (with_reducible apply Br.mk<;>intro _)))
  exact Fin.eq rfl ⟨rfl,bad 9 e (by decide) (Sep.of_sit h2)⟩
 | none =>
 rw [c4] at hlk
 have hlk:gdD (.mlook [.i] (.agg [.int .i64 0,.nilS]) true) [.mref mr,.int .i64 id] G1=some (.tup [.agg [.int .i64 0,.nilS],.bool false],G1):=hlk
 rw [c4] at hE
 replace hE:prepE n c ws id l=if l.any (zez ws) then 4 else if stale n c l then 15 else if za1 n ws=4 then 13 else 0:=hE
 refine goS trivial ?_
 (refine goX (nn hg2 hlk) ?_;(repeat' (with_reducible apply Br.mk<;>intro _)))
 have h3:Sep (SiA sb q mr n::MwA mr ws::zaw q m c::R) G1:=h2.perm pp
 (refine goM (zot f_zz54 [.gp sb 0] [SiA sb q mr n,MwA mr ws] (zez ws) l hL (fun x _=>z11 sb q mr n ws hw x)) (h3) ?_)
 rintro _ _ G2 ⟨rfl,rfl⟩ h4
 have h4:Sep (SiA sb q mr n::MwA mr ws::zaw q m c::R) G2:=h4
 have h5:Sep (zee sb n m c ws::R) G2:=Sep.of_sit (h4.perm pp)
 cases c5:l.any (zez ws) with
 | true =>
  have e:prepE n c ws id l=4:=by rw [hE,c5];rfl
  refine goS trivial ?_
  (refine goX trivial ?_;(repeat' (with_reducible apply Br.mk<;>intro _)))
  exact Fin.eq rfl ⟨rfl,bad 4 e (by decide) h5⟩
 | false =>
 rw [c5] at hE
 replace hE:prepE n c ws id l=if stale n c l then 15 else if za1 n ws=4 then 13 else 0:=hE
 clear hlk hg2 hs h1 h2 h3 h4
 refine goS trivial ?_
 (refine goX trivial ?_;(repeat' (with_reducible apply Br.mk<;>intro _)))
 refine W.loop (fun z st=>∃ (i:Nat) (b10 b11:Blk) (G:Gh),z+i=l.length∧(∀ x∈l.take i,(getR n c x.key).1=x.ver)∧Sep (zee sb n m c ws::R) G ∧
  st=(E [(0,.d (.gp sb 0)),(1,.d (.int .i64 id)),(2,.d (eL l)),(46,.d (eL l)),(47,.d (.int .i64 (l.length:Nat))),(48,.d (.int .i64 (i:Nat)))],HB [(7,⟨1,some [.int .i64 0,.nilS]⟩),(10,b10),(11,b11)],σ,G))
  ⟨_,_,zt (zcx [(7,⟨1,some [.int .i64 0,.nilS]⟩)] [10,11] rfl).symm,0,_,_,G2,rfl,by simp,h5,rfl⟩ ?_
 have hl16:=c3.2.2.2
 have hall:=zdq l
 rintro z st ⟨i,b10,b11,G3,hi,hok,h6,rfl⟩
 by_cases hlt:i<l.length
 · have hlt':(i:Int)<(l.length:Int):=by omega
   have hx:=c3.1 _ (List.getElem_mem hlt)
   have htk:l.take (i+1)=l.take i++[l[i]]:=by rw [List.take_add_one,List.getElem?_eq_getElem hlt];rfl
   have hget:=zrx sb n m c ws (by omega) hc.n16 hc.len (fun b hb=>by have:=hc.fit b hb;omega) l[i].key
   have he0:=hc.get hx.1 hx.2.1
   (refine goX (nn hlt' hall) ?_;(repeat' (with_reducible apply Br.mk<;>intro _)))
   (refine goM (hget) (h6) ?_)
   rintro _ _ G4 ⟨rfl,rfl⟩ h7
   rw [he0]
   by_cases hv:(getR n c l[i].key).1=l[i].ver
   · refine goS hv ?_
     (refine goX hv ?_;(repeat' (with_reducible apply Br.mk<;>intro _)))
     refine ⟨z - 1,_,by omega,zt rfl,i+1,_,_,_,by omega,fun x hx=>?_,h7,rfl⟩
     rw [htk,List.mem_append] at hx
     rcases hx with hx|hx
     · exact hok x hx
     · rw [List.mem_singleton.1 hx];exact hv
   · have e:prepE n c ws id l=15:=by
      have:stale n c l=true:=by unfold stale;rw [List.any_eq_true];exact ⟨_,List.getElem_mem hlt,by simpa using hv⟩
      rw [hE,if_pos this]
     refine goS hv ?_
     (refine goX hv ?_;(repeat' (with_reducible apply Br.mk<;>intro _)))
     exact Fin.eq rfl ⟨rfl,bad 15 e (by decide) h7⟩
 have hie:i=l.length:=by omega
 subst hie
 rw [List.take_length] at hok
 have hst:stale n c l=false:=by
  unfold stale
  rw [List.any_eq_false]
  intro x hx
  simpa using hok x hx
 rw [hst] at hE
 replace hE:prepE n c ws id l=if za1 n ws=4 then 13 else 0:=hE
 have hx:((l.length:Int)<(l.length:Int))=False:=eq_false (by omega)
 obtain ⟨q,mr,h7⟩:=Sep.sit h6
 have h7:Sep (SiA sb q mr n::zaw q m c::MwA mr ws::R) G3:=h7
 have hg7:=Sep.get (b:=sb) (cs:=[eSt q,.int .i64 n,.mref mr]) h7
 have hn16:=hc.n16
 (refine goX (nn hx hg7) ?_;(repeat' (with_reducible apply Br.mk<;>intro _)))
 refine zam fun b13 hb13=>?_
 have h8:Sep (ze b13 [.int .i64 0]::SiA sb q mr n::zaw q m c::MwA mr ws::R) (G3.set b13 (some [.int .i64 0])):=Sep.new hb13 h7
 have h9:=h8.set (cs':=[.int .i64 ((2 * n:Nat):Int)])
 have e2n:(2:Int) * (n:Int)=((2 * n:Nat):Int):=by omega
 rw [Gh.set_set] at h9
 try rw [e2n]
 refine goS e2n ?_
 refine goR e2n ?_
 generalize G3.set b13 (some [D.int .i64 ((2 * n:Nat):Int)])=G4 at h9 ⊢
 refine W.loop (fun z st=>∃ (t:Nat) (G:Gh),z+t=za1 n ws∧Sep (ze b13 [.int .i64 ((2 * n+t:Nat):Int)]::SiA sb q mr n::zaw q m c::MwA mr ws::R) G ∧
  st=(E [(0,.d (.gp sb 0)),(1,.d (.int .i64 id)),(2,.d (eL l)),(13,.d (.gp b13 0)),(14,.d (.clo f_zz21 [.gp b13 0]))],HB [(7,⟨1,some [.int .i64 0,.nilS]⟩),(10,b10),(11,b11)],σ,G))
  ⟨_,_,zt rfl,0,G4,rfl,h9,rfl⟩ ?_
 rintro z st ⟨t,G5,ht,h10,rfl⟩
 have h11:Sep (SiA sb q mr n::MwA mr ws::ze b13 [.int .i64 ((2 * n+t:Nat):Int)]::zaw q m c::R) G5:=h10.perm pp
 have hfl:=zr1 n ws
 refine goR trivial ?_
 (refine goM (zqr sb q mr n ws b13 ((2 * n+t:Nat):Int)) (h11) ?_)
 rintro _ _ G6 ⟨rfl,rfl⟩ h12
 have h12:Sep (SiA sb q mr n::MwA mr ws::ze b13 [.int .i64 ((2 * n+t:Nat):Int)]::zaw q m c::R) G6:=h12
 have h13:Sep (ze b13 [.int .i64 ((2 * n+t:Nat):Int)]::SiA sb q mr n::zaw q m c::MwA mr ws::R) G6:=h12.perm pp
 have hc13:=h13.get
 have hu:(ws.any fun p=>decide (p.2.slot=((2 * n+t:Nat):Int)))=zhl n ws t:=rfl
 rw [hu]
 by_cases htl:t<za1 n ws
 · rw [zr3 htl]
   have h14:=h13.set (cs':=[.int .i64 ((2 * n+(t+1):Nat):Int)])
   have e1:((2 * n+t:Nat):Int)+1=((2 * n+(t+1):Nat):Int):=by omega
   refine goS trivial ?_
   (refine goX (nn hc13 e1) ?_;(repeat' (with_reducible apply Br.mk<;>intro _)))
   exact ⟨z - 1,_,by omega,zt rfl,t+1,_,by omega,h14,rfl⟩
 have hte:t=za1 n ws:=by omega
 rw [hte,zr2 hin]
 rw [hte] at h13 hc13
 have hg13:=Sep.get (b:=sb) (cs:=[eSt q,.int .i64 n,.mref mr]) h13.tail
 have e4:((2 * n:Nat):Int)+4=((2 * n+4:Nat):Int):=by omega
 by_cases hf4:za1 n ws=4
 · have e:prepE n c ws id l=13:=by rw [hE,if_pos hf4]
   have ht4:(((2 * n+za1 n ws:Nat):Int)=((2 * n+4:Nat):Int))=True:=eq_true (by omega)
   refine goS trivial ?_
   (refine goX (nn hc13 (nn hg13 (nn e2n (nn e4 ht4)))) ?_;(repeat' (with_reducible apply Br.mk<;>intro _)))
   exact Fin.eq rfl ⟨rfl,bad 13 e (by decide) (Sep.of_sit h13.tail)⟩
 have hE0:prepE n c ws id l=0:=by rw [hE,if_neg hf4]
 have ht4:(((2 * n+za1 n ws:Nat):Int)=((2 * n+4:Nat):Int))=False:=eq_false (by omega)
 obtain ⟨N,rfl⟩:∃ N:Nat,id=N:=Int.eq_ofNat_of_zero_le (by omega)
 have hap0:zbc 1 0 (.d (.str [])) (.str (zeg N))=some (.own 1 ((zeg N).map eB)):=zpl _ (by rw [zo,za4];omega)
 have hap1:zbc 1 1 (.own 1 ((zeg N).map eB)) (.list [.int .u8 1])=some (.own 1 ((zdc N 1 []).map eB)):=zmw (zeg N) 1 (by omega) (by rw [za4];omega)
 have hnot:∀ a:List Tw,(zdc N 1 a).length=7+a.length:=fun a=>by simp [zdc,za4];omega
 have hcl:=hc.len
 refine goS trivial ?_
 (refine zb1 (nn hc13 (nn hg13 (nn e2n (nn e4 (nn ht4 (nn hap0 hap1)))))) (zf3 N (by omega)) ?_;(repeat' (with_reducible apply Br.mk<;>intro _)))
 have h14:Sep (zaw q m c::SiA sb q mr n::MwA mr ws::ze b13 [.int .i64 ((2 * n+za1 n ws:Nat):Int)]::R) G6:=h13.perm pp
 refine W.loop (fun z st=>∃ (i:Nat) (b17:Blk) (G:Gh),z+i=l.length∧Sep (zaw q (m+6 * i) (zc3 N (l.take i) c)::SiA sb q mr n::MwA mr ws::ze b13 [.int .i64 ((2 * n+za1 n ws:Nat):Int)]::R) G ∧
  st=(E [(0,.d (.gp sb 0)),(1,.d (.int .i64 (N:Nat))),(2,.d (eL l)),(13,.d (.gp b13 0)),(15,.own 1 ((zdc N 1 (l.take i)).map eB)),(92,.d (eL l)),(93,.d (.int .i64 (l.length:Nat))),(94,.d (.int .i64 (i:Nat)))],
   HB [(7,⟨1,some [.int .i64 0,.nilS]⟩),(10,b10),(11,b11),(17,b17)],σ,G))
  ⟨_,_,zt (zcx [(7,⟨1,some [.int .i64 0,.nilS]⟩),(10,b10),(11,b11)] [17] rfl).symm,0,_,G6,rfl,Sep.slt_mono (by omega) h14,rfl⟩ ?_
 rintro z st ⟨i,b17,G7,hi,h15,rfl⟩
 have hpl:=zhm N (l.take i) c
 by_cases hlt:i<l.length
 · have hlt':(i:Int)<(l.length:Int):=by omega
   have hok1:=c3.1 _ (List.getElem_mem hlt)
   have htk:l.take (i+1)=l.take i++[l[i]]:=by rw [List.take_add_one,List.getElem?_eq_getElem hlt];rfl
   have hputs:zc3 N (l.take (i+1)) c=if l[i].rd then zc3 N (l.take i) c else (zc3 N (l.take i) c).set (2 * l[i].key.toNat+1) (zeg N++zeg (l[i].ver.toNat+1)++l[i].val):=by
    rw [htk,zov];rfl
   have hnt:zdc N 1 (l.take (i+1))=zdc N 1 (l.take i)++[keyB l[i]]:=by rw [htk,zwq];rfl
   have hnl:=hnot (l.take i)
   have hti:(l.take i).length≤16:=by rw [List.length_take];omega
   generalize hxe:l[i]=x at hok1 hputs hnt
   obtain ⟨o1,o2,o3,o4,o5,o6⟩:=hok1
   obtain ⟨kn,hkn⟩:∃ kn:Nat,x.key=kn:=Int.eq_ofNat_of_zero_le o1
   obtain ⟨vn,hvn⟩:∃ vn:Nat,x.ver=vn:=Int.eq_ofNat_of_zero_le o3
   have hkt:x.key.toNat=kn:=by omega
   have hvt:x.ver.toNat=vn:=by omega
   have hk16:kn<16:=by omega
   cases hr:x.rd with
   | true =>
    have hkb:keyB x=UInt8.ofNat (kn+128):=by unfold keyB;rw [hr,hkt];rfl
    have hor:=z50 hk16
    have hap:=zmw (zdc N 1 (l.take i)) (kn+128) (by omega) (by omega)
    rw [← hkb,← hnt] at hap
    rw [hr,if_pos rfl] at hputs
    (refine goX (nn hlt' (nn hall (nn hxe (nn hr (nn hkn (nn hor hap)))))) ?_;(repeat' (with_reducible apply Br.mk<;>intro _)))
    exact ⟨z - 1,_,by omega,zt rfl,i+1,_,_,by omega,by rw [hputs];exact Sep.slt_mono (by omega) h15,rfl⟩
   | false =>
    have hkb:keyB x=UInt8.ofNat kn:=by unfold keyB;rw [hr,hkt];rfl
    have hap:=zmw (zdc N 1 (l.take i)) kn (by omega) (by omega)
    rw [← hkb,← hnt] at hap
    rw [hr,if_neg (by simp),hkt,hvt] at hputs
    have hg15:=Sep.get (b:=sb) (cs:=[eSt q,.int .i64 n,.mref mr]) h15.tail
    have k1:(2:Int) * (kn:Int)=((2 * kn:Nat):Int):=by omega
    have k2:((2 * kn:Nat):Int)+1=((2 * kn+1:Nat):Int):=by omega
    have k3:(vn:Int)+1=((vn+1:Nat):Int):=by omega
    (refine znq (nn hlt' (nn hall (nn hxe (nn hr (nn hkn (nn hvn (nn hap (nn hg15 (nn k1 (nn k2 k3)))))))))) (zf3 N (by omega)) (zf3 (vn+1) (by omega)) ?_;(repeat' (with_reducible apply Br.mk<;>intro _)))
    (refine goI (zko q (m+6 * i) (zc3 N (l.take i) c) (by omega) (2 * kn+1) (by omega) (zeg N++zeg (vn+1)++x.val) (by simp only [List.length_append,za4];omega) (by simp only [List.length_append,za4];omega)) (h15) ?_)
    rintro _ _ G8 ⟨rfl,rfl⟩ h16
    have h16:Sep (zaw q (m+6 * i+6) ((zc3 N (l.take i) c).set (2 * kn+1) (zeg N++zeg (vn+1)++x.val))::SiA sb q mr n::MwA mr ws::ze b13 [.int .i64 ((2 * n+za1 n ws:Nat):Int)]::R) G8:=h16
    refine goS trivial ?_
    (refine goX trivial ?_;(repeat' (with_reducible apply Br.mk<;>intro _)))
    exact ⟨z - 1,_,by omega,zt rfl,i+1,_,_,by omega,by rw [hputs];exact Sep.slt_mono (by omega) h16,rfl⟩
 have hie:i=l.length:=by omega
 subst hie
 rw [List.take_length] at h15 hpl ⊢
 have hg15:=Sep.get (b:=sb) (cs:=[eSt q,.int .i64 n,.mref mr]) h15.tail
 have hcc:=h15.tail.tail.tail.get
 have hnl:=hnot l
 have hbm:zbh ((zdc N 1 l).map eB)=some (zdc N 1 l):=zfs _
 have hvb:z4r (some (.list ((zdc N 1 l).map eB)))=some (.d (.str (zdc N 1 l))):=by simp only [z4r,hbm,Option.map_some]
 (refine goX (nn hx (nn hg15 (nn hcc hvb))) ?_;(repeat' (with_reducible apply Br.mk<;>intro _)))
 have hfl4:za1 n ws<4:=by omega
 have h15':Sep (zaw q (m+6 * (l.length:Int)) (zc3 N l c)::SiA sb q mr n::MwA mr ws::ze b13 [.int .i64 ((2 * n+za1 n ws:Nat):Int)]::R) G7:=h15
 (refine goI (zko q (m+6 * (l.length:Int)) (zc3 N l c) (by omega) (2 * n+za1 n ws) (by omega) (zdc N 1 l) (by omega) (by omega)) (h15') ?_)
 rintro _ _ G8 ⟨rfl,rfl⟩ h16
 have h16:Sep (zaw q (m+6 * (l.length:Int)+6) ((zc3 N l c).set (2 * n+za1 n ws) (zdc N 1 l))::SiA sb q mr n::MwA mr ws::ze b13 [.int .i64 ((2 * n+za1 n ws:Nat):Int)]::R) G8:=h16
 have hg16:=Sep.get (b:=sb) (cs:=[eSt q,.int .i64 n,.mref mr]) h16.tail
 have hc16:=h16.tail.tail.tail.get
 have hlne:l≠[]:=by
  intro h
  have:=c3.2.2.1
  rw [h] at this
  simp at this
 have h17:Sep (MwA mr ws::zaw q (m+6 * (l.length:Int)+6) ((zc3 N l c).set (2 * n+za1 n ws) (zdc N 1 l))::SiA sb q mr n::ze b13 [.int .i64 ((2 * n+za1 n ws:Nat):Int)]::R) G8:=h16.perm pp
 refine goS trivial ?_
 (refine zb1 (nn hg16 hc16) (zy3 l hlne (by omega)) ?_;(repeat' (with_reducible apply Br.mk<;>intro _)))
 refine zuu (emb:=eI) (vf:=eWr) (Sep.map h17) (N:Int) ⟨((2 * n+za1 n ws:Nat):Int),l⟩ fun M hM=>?_
 have h18:=Sep.mapSet h17 hM
 generalize G8.setM mr (some M)=G9 at h18 ⊢
 have h19:Sep (SiA sb q mr n::zaw q (m+200) (zif n c ws N l)::MwA mr (zou n ws N l)::ze b13 [.int .i64 ((2 * n+za1 n ws:Nat):Int)]::R) G9 :=
  (Sep.slt_mono (k:=m+200) (by omega) (h18.perm pp:Sep (zaw q (m+6 * (l.length:Int)+6) ((zc3 N l c).set (2 * n+za1 n ws) (zdc N 1 l))::SiA sb q mr n::MwA mr (zou n ws N l)::ze b13 [.int .i64 ((2 * n+za1 n ws:Nat):Int)]::R) G9)).swap
 refine goS trivial ?_
 (refine goX trivial ?_;(repeat' (with_reducible apply Br.mk<;>intro _)))
 refine Fin.eq rfl ⟨rfl,_,⟨by rw [hE0],rfl⟩,?_⟩
 rw [if_pos hE0,if_pos hE0]
 have h20:Sep (ze b13 [.int .i64 ((2 * n+za1 n ws:Nat):Int)]::SiA sb q mr n::zaw q (m+200) (zif n c ws N l)::MwA mr (zou n ws N l)::R) G9:=h19.perm pp
 exact Sep.of_sit h20.tail
end Go.Proofs.Ytlejjdbmmdghmaa
namespace Go.Proofs.Ytlejjdbmmdghmaa
open Go Go.E2 C22 C40
set_option maxHeartbeats 2000000
structure Odd (n:Nat) (c:List Str):Prop where
 n16:n≤16
 len:c.length=2 * n+4
 fit:∀ b∈c,b.length≤55
 odd:∀ k,k<n→∃ b,c[2 * k+1]?=some b∧(b=[]∨12≤b.length)
theorem zkt {α:Type} {l:List α} {i:Nat} {a b:α} (h:b∈l.set i a):b=a∨b∈l:=by
 rcases List.mem_or_eq_of_mem_set h with h|h
 · exact .inr h
 · exact .inl h
theorem Odd.set {n:Nat} {c:List Str} (h:Odd n c) {i:Nat} {b:Str} (hb:b.length≤55) (ho:(∃ k,i=2 * k+1∧k<n)→b=[]∨12≤b.length):Odd n (c.set i b):=by
 refine ⟨h.n16,by rw [List.length_set];exact h.len,fun x hx=>?_,fun k hk=>?_⟩
 · rcases zkt hx with rfl|hx
   · exact hb
   · exact h.fit x hx
 · have hl:=h.len
   by_cases e:i=2 * k+1
   · subst e
     exact ⟨b,by rw [List.getElem?_set_self (by omega)],ho ⟨k,rfl,hk⟩⟩
   · obtain ⟨x,hx,h2⟩:=h.odd k hk
     exact ⟨x,by rw [List.getElem?_set_ne e,hx],h2⟩
def zth (id:Nat) (x:Tw) (c:List Str):List Str :=
 if x.rd then c else
 match c[2 * x.key.toNat+1]? with
 | none=>c
 | some b=>if b=[]∨zo4 b≠id then c else (c.set (2 * x.key.toNat) (b.drop 6)).set (2 * x.key.toNat+1) []
def ziv (id:Nat):List Tw→List Str→List Str
 | [],c=>c
 | x::l,c=>ziv id l (zth id x c)
theorem zr4 (id:Nat):∀ (a b:List Tw) (c:List Str),ziv id (a++b) c=ziv id b (ziv id a c)
 | [],b,c=>rfl
 | x::a,b,c=>by rw [List.cons_append,ziv,ziv,zr4 id a b]
theorem Odd.fin {n:Nat} {c:List Str} (h:Odd n c) (id:Nat) (x:Tw):Odd n (zth id x c):=by
 unfold zth
 split
 · exact h
 · split
   · exact h
   · rename_i b hb
     split
     · exact h
     · have hm:=h.fit b (List.mem_of_getElem? hb)
       exact (h.set (by rw [List.length_drop];omega) (fun ⟨k,hk,_⟩=>by omega)).set (by simp) (fun _=>.inl rfl)
theorem Odd.fins {n:Nat} (id:Nat):∀ (l:List Tw) {c:List Str},Odd n c→Odd n (ziv id l c)
 | [],_,h=>h
 | x::l,_,h=>Odd.fins id l (h.fin id x)
theorem zr5 {b:Str} {k:Int} (h:b=[]∨k≤b.length):rd1 b k=(b,0):=by
 unfold rd1
 by_cases hb:b=[]
 · rw [if_pos hb,hb]
 · rw [if_neg hb,if_neg (by rcases h with h|h;exact absurd h hb;omega)]
theorem zws (sb q mr n:Nat) (m:Int) (c:List Str) (h:Odd n c) (hm:m≤500000000) (id:Nat) (w:Wr) (_hid:id<281474976710656) (hl:w.l.length≤16) (hk:∀ x∈w.l,0≤x.key∧x.key<n) (s:Nat) (hs:w.slot=s) (hs2:s<c.length) :
 zy Try.prog f_zz45 [.gp sb 0,.int .i64 id,eWr w] [SiA sb q mr n,zaw q m c] (fun r post=>r=.d (.int .i64 0)∧post=[SiA sb q mr n,zaw q (m+300) ((ziv id w.l c).set s [])]):=by
 refine zg fol zz45_cp fun R G σ hs0=>?_
 have hall:=zdq w.l
 have h1:Sep (zaw q m c::SiA sb q mr n::R) G:=hs0.swap
 refine goS trivial ?_
 refine goR trivial ?_
 refine W.loop (fun z st=>∃ (i:Nat) (b8:Blk) (G:Gh),z+i=w.l.length∧Sep (zaw q (m+12 * i) (ziv id (w.l.take i) c)::SiA sb q mr n::R) G ∧
  st=(E [(0,.d (.gp sb 0)),(1,.d (.int .i64 (id:Nat))),(5,.ptr 0 5 1 0),(14,.d (eL w.l)),(15,.d (.int .i64 (w.l.length:Nat))),(16,.d (.int .i64 (i:Nat)))],HB [(5,⟨1,some [.int .i64 w.slot,eL w.l]⟩),(8,b8)],σ,G))
  ⟨_,_,zt (zcx [(5,⟨1,some [.int .i64 w.slot,eL w.l]⟩)] [8] rfl).symm,0,_,G,rfl,Sep.slt_mono (by omega) h1,rfl⟩ ?_
 rintro z st ⟨i,b8,G1,hi,h2,rfl⟩
 have ho:=h.fins id (w.l.take i)
 have hol:=ho.len
 have hg:=Sep.get (b:=sb) (cs:=[eSt q,.int .i64 n,.mref mr]) h2.tail
 have hcl:=h.len
 by_cases hlt:i<w.l.length
 case neg =>
  have hie:i=w.l.length:=by omega
  subst hie
  rw [List.take_length] at h2 hol
  have hx:((w.l.length:Int)<(w.l.length:Int))=False:=eq_false (by omega)
  (refine goX (nn hx (nn hg hs)) ?_;(repeat' (with_reducible apply Br.mk<;>intro _)))
  (refine goI (zf2 q (m+12 * (w.l.length:Int)) (ziv id w.l c) (by omega) s (by omega)) (h2) ?_)
  rintro _ _ G2 ⟨rfl,rfl⟩ h3
  refine goS trivial ?_
  (refine goX trivial ?_;(repeat' (with_reducible apply Br.mk<;>intro _)))
  exact Fin.eq rfl ⟨rfl,_,⟨rfl,rfl⟩,(Sep.slt_mono (k:=m+300) (by omega) h3).swap⟩
 have hlt':(i:Int)<(w.l.length:Int):=by omega
 have htk:w.l.take (i+1)=w.l.take i++[w.l[i]]:=by rw [List.take_add_one,List.getElem?_eq_getElem hlt];rfl
 have hfin:ziv id (w.l.take (i+1)) c=zth id w.l[i] (ziv id (w.l.take i) c):=by rw [htk,zr4];rfl
 have hkk:=hk _ (List.getElem_mem hlt)
 generalize hxe:w.l[i]=x at hkk hfin
 generalize hce:ziv id (w.l.take i) c=c1 at h2 ho hol hfin
 obtain ⟨kn,hkn⟩:∃ kn:Nat,x.key=kn:=Int.eq_ofNat_of_zero_le hkk.1
 have hkt:x.key.toNat=kn:=by omega
 have hn16:=h.n16
 have hkb:kn<16:=by omega
 cases hr:x.rd with
 | true =>
  unfold zth at hfin
  rw [hr,if_pos rfl] at hfin
  (refine goX (nn hlt' (nn hall (nn hxe hr))) ?_;(repeat' (with_reducible apply Br.mk<;>intro _)))
  exact ⟨z - 1,_,by omega,zt rfl,i+1,_,_,by omega,by rw [hfin];exact Sep.slt_mono (by omega) h2,rfl⟩
 | false =>
  obtain ⟨b,hb,hb12⟩:=ho.odd kn (by omega)
  have hbl:2 * kn+1<c1.length:=by omega
  have hbe:c1[2 * kn+1]=b:=by rw [List.getElem?_eq_getElem hbl] at hb;exact Option.some.inj hb
  have hbf:=ho.fit b (List.mem_of_getElem? hb)
  unfold zth at hfin
  rw [hr,if_neg (by simp),hkt,hb] at hfin
  replace hfin:ziv id (w.l.take (i+1)) c=if b=[]∨zo4 b≠id then c1 else (c1.set (2 * kn) (b.drop 6)).set (2 * kn+1) []:=hfin
  have k1:(2:Int) * (kn:Int)=((2 * kn:Nat):Int):=by omega
  have k2:((2 * kn:Nat):Int)+1=((2 * kn+1:Nat):Int):=by omega
  have hread:=zgq q (m+12 * i) c1 (by omega) (2 * kn+1) hbl (by rw [hbe];omega) 12
  rw [hbe,zr5 (by rcases hb12 with h|h;exact .inl h;exact .inr (by omega))] at hread
  (refine goX (nn hlt' (nn hall (nn hxe (nn hr (nn hkn (nn hg (nn k1 k2))))))) ?_;(repeat' (with_reducible apply Br.mk<;>intro _)))
  (refine goM (hread) (h2) ?_)
  rintro _ _ G2 ⟨rfl,rfl⟩ h3
  have h3:Sep (zaw q (m+12 * i) c1::SiA sb q mr n::R) G2:=h3
  have hg3:=Sep.get (b:=sb) (cs:=[eSt q,.int .i64 n,.mref mr]) h3.tail
  by_cases hb0:b=[]
  · rw [if_pos (.inl hb0)] at hfin
    subst hb0
    refine goS trivial ?_
    (refine goX trivial ?_;(repeat' (with_reducible apply Br.mk<;>intro _)))
    exact ⟨z - 1,_,by omega,zt rfl,i+1,_,_,by omega,by rw [hfin];exact Sep.slt_mono (by omega) h3,rfl⟩
  have hb6:12≤b.length:=by rcases hb12 with h|h;exact absurd h hb0;exact h
  by_cases hv:zo4 b=id
  · rw [if_neg (by rintro (h|h);exact hb0 h;exact h hv)] at hfin
    have hvi:(((zo4 b:Nat):Int)=(id:Int))=True:=eq_true (by omega)
    refine goS hb0 ?_
    (refine zb1 (nn hb0 (nn hvi (nn hg3 (nn k1 k2)))) (zen b (by omega) (by omega)) ?_;(repeat' (with_reducible apply Br.mk<;>intro _)))
    (refine goI (zko q (m+12 * i) c1 (by omega) (2 * kn) (by omega) (b.drop 6) (by rw [List.length_drop];omega) (by rw [List.length_drop];omega)) (h3) ?_)
    rintro _ _ G4 ⟨rfl,rfl⟩ h4
    have h4:Sep (zaw q (m+12 * i+6) (c1.set (2 * kn) (b.drop 6))::SiA sb q mr n::R) G4:=h4
    have hg4:=Sep.get (b:=sb) (cs:=[eSt q,.int .i64 n,.mref mr]) h4.tail
    refine goS trivial ?_
    (refine goX (nn hg4 (nn k1 k2)) ?_;(repeat' (with_reducible apply Br.mk<;>intro _)))
    (refine goI (zf2 q (m+12 * i+6) (c1.set (2 * kn) (b.drop 6)) (by omega) (2 * kn+1) (by rw [List.length_set];omega)) (h4) ?_)
    rintro _ _ G5 ⟨rfl,rfl⟩ h5
    have h5:Sep (zaw q (m+12 * i+6+6) ((c1.set (2 * kn) (b.drop 6)).set (2 * kn+1) [])::SiA sb q mr n::R) G5:=h5
    refine goS trivial ?_
    (refine goX trivial ?_;(repeat' (with_reducible apply Br.mk<;>intro _)))
    exact ⟨z - 1,_,by omega,zt rfl,i+1,_,_,by omega,by rw [hfin];exact Sep.slt_mono (by omega) h5,rfl⟩
  · rw [if_pos (.inr hv)] at hfin
    have hvi:(((zo4 b:Nat):Int)=(id:Int))=False:=eq_false (by omega)
    refine goS hb0 ?_
    (refine zb1 (nn hb0 hvi) (zen b (by omega) (by omega)) ?_;(repeat' (with_reducible apply Br.mk<;>intro _)))
    exact ⟨z - 1,_,by omega,zt rfl,i+1,_,_,by omega,by rw [hfin];exact Sep.slt_mono (by omega) h3,rfl⟩
end Go.Proofs.Ytlejjdbmmdghmaa
