/-
 Layer 22 (slots): what a slot is while the power may fail,as plain mathematics.
 Conditions: of each law as it says.
-/
import Derived.Test.YtlejjdbmmdghmaaF22w
import Derived.Test.YtlejjdbmmdghmaaT40h
set_option linter.unusedSimpArgs false
namespace C22
def fH (s:Sec):List UInt8:=s.1.take 32
def sH (s:Sec):List UInt8:=s.1.drop 32
def z29 (l:List UInt8):Nat:=((l[0]?).getD 0).toNat * 16777216+((l[1]?).getD 0).toNat * 65536+((l[2]?).getD 0).toNat * 256+((l[3]?).getD 0).toNat
theorem z5t (s:Sec):zch s 0=z29 (fH s):=by
 unfold zch z29 zaa fH
 simp only [List.getElem?_take,Nat.zero_add]
 rfl
theorem z5u (s:Sec):zch s 32=z29 (sH s):=by
 unfold zch z29 zaa sH
 simp only [List.getElem?_drop]
theorem zv8 (s:Sec):zaa s 36=(((sH s)[4]?).getD 0).toNat:=by
 unfold zaa sH
 simp only [List.getElem?_drop]
def Cls (G N s:Sec):Prop:=(fH s=fH G∨fH s=fH N∨fH s=fH z0)∧(sH s=sH G∨sH s=sH N∨sH s=sH z0)
structure Two (G N:Sec):Prop where
 gg:zf6 G=true
 gn:zf6 N=true
 ne:G=N∨zch G 0<zch N 0
structure CellS (G N:Sec) (c:Cel):Prop where
 cls:Cls G N c.s
 op:∀ s∈c.op,s=G∨s=N
structure Safe (G N:Sec) (c:Cel):Prop where
 op:c.op=[]
 bad:c.bad=false
 is:c.s=G∨c.s=N
structure Idle (d:Dk):Prop where
 ok:Okd d
 live:d.dead=false
 shut:∀ c∈d.cs,c.op=[]
inductive WrO (d:Dk) (a:Nat) (v:Sec):Dk→Int→Prop
 | none:d.after=0→WrO d a v { d with dead:=true } 12
 | open (d':Dk):d.after=1→d'.cs=(d.cs.modify a fun c=>{ c with op:=[v] })→d'.dead=true→d'.steps=d.steps+1→WrO d a v d' 12
 | done (d':Dk):d'.cs=(d.cs.modify a fun _=>⟨v,false,[]⟩)→d'.dead=false→d'.steps=d.steps+2→(d.after=-1→d'.after=-1)→WrO d a v d' 0
end C22
namespace C22
theorem zoq (q:Int):(qb q).length=4:=rfl
theorem zv9 (q:Int) (b:Str):(mk1 q b).1=(qb q++pad 28 (b.take 28))++(qb q++([UInt8.ofNat b.length]++pad 27 ((b.drop 28).take 27))):=by
 have h1:(pad 28 (b.take 28)).length=28:=zer (by simp;omega)
 have h2:(pad 27 ((b.drop 28).take 27)).length=27:=zer (by simp;omega)
 unfold mk1
 simp only
 rw [List.take_of_length_le (by simp only [List.length_append,h1,h2,zoq,List.length_cons,List.length_nil];omega)]
 simp only [List.append_assoc]
theorem z5v (q:Int) (b:Str):fH (mk1 q b)=qb q++pad 28 (b.take 28):=by
 have h1:(pad 28 (b.take 28)).length=28:=zer (by simp;omega)
 unfold fH
 rw [zv9,List.take_left' (by rw [List.length_append,h1,zoq])]
theorem zzv (q:Int) (b:Str):sH (mk1 q b)=qb q++([UInt8.ofNat b.length]++pad 27 ((b.drop 28).take 27)):=by
 have h1:(pad 28 (b.take 28)).length=28:=zer (by simp;omega)
 unfold sH
 rw [zv9,List.drop_left' (by rw [List.length_append,h1,zoq])]
theorem zhk (b:Int):((zkb b).toNat:Int)=b % 256:=by
 unfold zkb
 rw [UInt8.toNat_ofNat']
 omega
theorem zwa {q:Int} (h0:0≤q) (h1:q<4294967296) (l:List UInt8):(z29 (qb q++l):Int)=q:=by
 unfold z29 qb
 simp only [List.cons_append,List.nil_append,List.getElem?_cons_zero,List.getElem?_cons_succ,Option.getD_some]
 have a:=zhk (q / 16777216)
 have b:=zhk (q / 65536)
 have c:=zhk (q / 256)
 have d:=zhk q
 omega
theorem zwb {q:Int} (h0:0≤q) (h1:q<4294967296) (b:Str):(zch (mk1 q b) 0:Int)=q:=by
 rw [z5t,z5v,zwa h0 h1]
theorem zwc {q:Int} (h0:0≤q) (h1:q<4294967296) (b:Str):(zch (mk1 q b) 32:Int)=q:=by
 rw [z5u,zzv,zwa h0 h1]
theorem zp8 (q:Int) {b:Str} (h:b.length≤55):zaa (mk1 q b) 36=b.length:=by
 rw [zv8,zzv]
 unfold qb
 simp only [List.cons_append,List.nil_append,List.getElem?_cons_zero,List.getElem?_cons_succ,Option.getD_some]
 rw [UInt8.toNat_ofNat']
 omega
theorem zyw {q:Int} (h0:1≤q) (h1:q<4294967296) {b:Str} (h:b.length≤55):zf6 (mk1 q b)=true:=by
 have a:=zwb (by omega) h1 b
 have c:=zwc (by omega) h1 b
 unfold zf6
 rw [zp8 q h]
 simp only [Bool.and_eq_true,decide_eq_true_eq]
 omega
theorem zwd (q:Int) {b:Str} (h:b.length≤55):zgn (mk1 q b)=b:=by
 have h1:(pad 28 (b.take 28)).length=28:=zer (by simp;omega)
 unfold zgn
 rw [zp8 q h,zv9]
 have e1:List.drop 4 ((qb q++pad 28 (b.take 28))++(qb q++([UInt8.ofNat b.length]++pad 27 ((b.drop 28).take 27))))=pad 28 (b.take 28)++(qb q++([UInt8.ofNat b.length]++pad 27 ((b.drop 28).take 27))):=by
  rw [List.append_assoc,List.drop_left' (zoq q)]
 have e2:List.drop 37 ((qb q++pad 28 (b.take 28))++(qb q++([UInt8.ofNat b.length]++pad 27 ((b.drop 28).take 27))))=pad 27 ((b.drop 28).take 27):=by
  have:(qb q++pad 28 (b.take 28))++(qb q++([UInt8.ofNat b.length]++pad 27 ((b.drop 28).take 27)))=((qb q++pad 28 (b.take 28))++(qb q++[UInt8.ofNat b.length]))++pad 27 ((b.drop 28).take 27):=by simp only [List.append_assoc]
  rw [this,List.drop_left' (by simp only [List.length_append,h1,zoq,List.length_cons,List.length_nil])]
 rw [e1,e2]
 unfold pad
 have e3:List.take (min b.length 28) ((b.take 28++List.replicate (28 - (b.take 28).length) 0)++(qb q++([UInt8.ofNat b.length]++(List.take 27 (b.drop 28)++List.replicate (27 - (List.take 27 (b.drop 28)).length) 0))))=b.take 28:=by
  rw [List.append_assoc,List.take_left' (by rw [List.length_take];omega)]
 have e4:List.take (b.length - 28) (List.take 27 (b.drop 28)++List.replicate (27 - (List.take 27 (b.drop 28)).length) 0)=b.drop 28:=by
  rw [List.take_left' (by rw [List.length_take,List.length_drop];omega),List.take_of_length_le (by rw [List.length_drop];omega)]
 rw [e3,e4,List.take_append_drop]
end C22
namespace C22
structure SlD (d:Dk) (m:Int) (c:List Str):Prop where
 lv:Lv d m
 len:2 * c.length≤d.cs.length
 sl:∀ (i:Nat) (h:i<c.length),∃ q:Int,1≤q∧q≤m+1∧zcl d (2 * i)=mk1 q c[i]∧zcl d (2 * i+1)=mk1 q c[i]∧c[i].length≤55
section
variable {d:Dk} {m:Int} {c:List Str}
theorem SlD.mono (h:SlD d m c) {k:Int} (hk:m≤k):SlD d k c :=
 ⟨h.lv.mono hk,h.len,fun i hi=>by obtain ⟨q,h1,h2,h3⟩:=h.sl i hi;exact ⟨q,h1,by omega,h3⟩⟩
theorem SlD.slot (h:SlD d m c) (hm:m≤700000000) {i:Nat} (hi:i<c.length) :
 slotR d 0 i=(fOf d (2 * i),fOf d (2 * i+1),0)∧zf6 (zcl d (2 * i))=true:=by
 obtain ⟨q,h1,h2,h3,h4,h5⟩:=h.sl i hi
 have hl:=h.len
 have hg:zf6 (mk1 q c[i])=true:=zyw h1 (by omega) h5
 have hs:=h.lv.slotR (f:=0) (i:=i) (by omega)
 rw [if_neg (by simp only [Nat.zero_add];rw [h3,h4,hg];simp)] at hs
 simp only [Nat.zero_add] at hs
 exact ⟨hs,by rw [h3];exact hg⟩
theorem SlD.get (h:SlD d m c) (hm:m≤700000000) {i:Nat} (hi:i<c.length) :
 getR d 0 c.length i=if c[i]=[] then ([],8) else (c[i],0):=by
 obtain ⟨hs,hg⟩:=h.slot hm hi
 obtain ⟨q,h1,h2,h3,h4,h5⟩:=h.sl i hi
 unfold getR
 rw [if_neg (by omega),hs,if_neg (by simp)]
 simp only
 rw [if_neg (by unfold fOf;simp [hg])]
 have e:(fOf d (2 * i)).s=mk1 q c[i]:=h3
 rw [e,zp8 q h5,zwd q h5]
 simp only [List.length_eq_zero_iff]
theorem SlD.change (h:SlD d m c) (hm:m≤600000000) {i:Nat} (hi:i<c.length) {b:Str} (hb:b.length≤55) :
 (zd4 d 0 i b).2=0∧SlD (zd4 d 0 i b).1 (m+6) (c.set i b):=by
 obtain ⟨hs,hg⟩:=h.slot (by omega) hi
 obtain ⟨q,h1,h2,h3,h4,h5⟩:=h.sl i hi
 have hl:=h.len
 have hh:healR d (fOf d (2 * i)) (fOf d (2 * i+1))=(d,0):=by
  unfold healR
  rw [if_pos (.inr ⟨by unfold fOf;simp only;rw [h4,← h3];exact hg,by unfold fOf;simp only;rw [h4,h3]⟩)]
 have hq:zs6 (fOf d (2 * i))=q+1:=by
  unfold zs6
  rw [if_pos (show (fOf d (2 * i)).good=true from hg)]
  have e:(fOf d (2 * i)).s=mk1 q c[i]:=h3
  rw [e,zwb (by omega) (by omega)]
  omega
 unfold zd4
 rw [hs]
 simp only
 rw [if_neg (by simp),hh,if_neg (by simp),hq]
 unfold zkd
 have e0:(0:Int)+2 * (i:Int)=((2 * i:Nat):Int):=by omega
 have e1:(0:Int)+2 * (i:Int)+1=((2 * i+1:Nat):Int):=by omega
 rw [e1,e0]
 simp only
 obtain ⟨g1,g2,g3,g4⟩:=h.lv.writeR (by omega) (a:=2 * i+1) (by omega) (mk1 (q+1) b)
 rw [if_neg (by rw [g1];simp)]
 obtain ⟨k1,k2,k3,k4⟩:=g2.writeR (by omega) (a:=2 * i) (by omega) (mk1 (q+1) b)
 refine ⟨k1,k2.mono (by omega),by rw [List.length_set];omega,fun j hj=>?_⟩
 rw [List.length_set] at hj
 by_cases e:j=i
 · subst e
   refine ⟨q+1,by omega,by omega,?_,?_,?_⟩
   · rw [k4,if_pos rfl,List.getElem_set_self]
   · rw [k4,if_neg (by omega),g4,if_pos rfl,List.getElem_set_self]
   · rw [List.getElem_set_self];exact hb
 · obtain ⟨p,p1,p2,p3,p4,p5⟩:=h.sl j hj
   refine ⟨p,p1,by omega,?_,?_,?_⟩
   · rw [k4,if_neg (by omega),g4,if_neg (by omega),List.getElem_set_ne (Ne.symm e)];exact p3
   · rw [k4,if_neg (by omega),g4,if_neg (by omega),List.getElem_set_ne (Ne.symm e)];exact p4
   · rw [List.getElem_set_ne (Ne.symm e)];exact p5
theorem SlD.put (h:SlD d m c) (hm:m≤600000000) {i:Nat} (hi:i<c.length) {b:Str} (hb:b.length≤55) (hp:1≤b.length) :
 (zya d 0 c.length i b).2=0∧SlD (zya d 0 c.length i b).1 (m+6) (c.set i b):=by
 unfold zya
 rw [if_neg (by omega)]
 exact h.change hm hi hb
theorem SlD.kill (h:SlD d m c) (hm:m≤600000000) {i:Nat} (hi:i<c.length) :
 (zmm d 0 c.length i).2=0∧SlD (zmm d 0 c.length i).1 (m+6) (c.set i []):=by
 unfold zmm
 rw [if_neg (by omega)]
 exact h.change hm hi (by simp)
theorem SlD.fmt (h:Lv d m) (hm0:0≤m) (hm:m≤600000000) {n:Nat} (h1:1≤n) (hl:2 * n≤d.cs.length) :
 (fmtR d 0 n).2=0∧SlD (fmtR d 0 n).1 (m+2 * n+1) (List.replicate n []):=by
 obtain ⟨k1,k2,k3,k4⟩:=h.fmtR (by omega) (f:=0) h1 (by omega)
 have e:((0:Nat):Int)=0:=rfl
 rw [e] at k1 k2 k3 k4
 refine ⟨k1,k2,by rw [List.length_replicate];omega,fun i hi=>?_⟩
 rw [List.length_replicate] at hi
 refine ⟨1,by omega,by omega,?_,?_,?_⟩
 · rw [k4,if_pos (by omega),List.getElem_replicate]
 · rw [k4,if_pos (by omega),List.getElem_replicate]
 · rw [List.getElem_replicate];simp
theorem SlD.opn (h:SlD d m c) (hm:m≤600000000) (h1:1≤c.length):zhf d 0 c.length=(d,[],0):=by
 have hl:=h.len
 have hp:zbx d 0 c.length=true:=by
  unfold zbx
  simp
  omega
 have ho:openN d 0 c.length=(d,[],0):=by
  have:=h.lv.openN (f:=0) c.length (by omega) fun i hi=>by
   obtain ⟨q,a1,a2,a3,a4,a5⟩:=h.sl i hi
   obtain ⟨_,hg⟩:=h.slot (by omega) hi
   simp only [Nat.zero_add]
   exact ⟨by rw [a3,a4],hg⟩
  exact this
 unfold zhf
 rw [if_neg (by rw [hp];simp),Int.toNat_natCast,ho,if_neg (by simp)]
end
end C22
namespace Go.Proofs.Ytlejjdbmmdghmaa
open Go Go.E2 C22
set_option maxHeartbeats 1000000
def zaw (q:Nat) (m:Int) (c:List Str):As:=fun G=>∃ p d,SlD d m c∧zz5 [StA q p 0 c.length,zp p d] G
theorem Sep.slt {q:Nat} {m:Int} {c:List Str} {R:List As} {G:Gh} (h:Sep (zaw q m c::R) G):∃ p d,SlD d m c∧Sep (StA q p 0 c.length::zp p d::R) G:=by
 obtain ⟨G1,G2,h1,h2,h3,⟨p,d,hd,h4⟩,h5⟩:=h
 exact ⟨p,d,hd,Sep.app (l:=[_,_]) ⟨G1,G2,h1,h2,h3,h4,h5⟩⟩
theorem Sep.of_slt {q p:Nat} {d:Dk} {m:Int} {c:List Str} {R:List As} {G:Gh} (hd:SlD d m c) (h:Sep (StA q p 0 c.length::zp p d::R) G):Sep (zaw q m c::R) G:=by
 have:=Sep.of_app (l:=[StA q p 0 c.length,zp p d]) h
 exact this.imp fun G hG=>⟨p,d,hd,hG⟩
theorem z1u (q:Nat) (m:Int) (c:List Str) (hm:m≤600000000) (i:Nat) (hi:i<c.length) :
 zy Try.prog f_zz38 [.gp q 0,.int .i64 i] [zaw q m c] (fun r post=>r=.tup [.str c[i],.int .i64 (if c[i]=[] then 8 else 0)]∧post=[zaw q m c]):=by
 intro R G σ hs
 obtain ⟨p,d,hd,h⟩:=Sep.slt hs
 have hl:=hd.len
 have hmo:=hd.lv.ok.most
 refine (z1h q p d 0 c.length i (by omega) (by omega) R G σ h).mono fun r σ' G' ⟨h1,post,⟨h2,h3⟩,h4⟩=>⟨h1,_,⟨?_,rfl⟩,?_⟩
 · rw [h2,hd.get (by omega) hi]
   split
   · rename_i e;rw [e]
   · rfl
 · subst h3;exact Sep.of_slt hd h4
theorem zko (q:Nat) (m:Int) (c:List Str) (hm:m≤600000000) (i:Nat) (hi:i<c.length) (b:Str) (h1:1≤b.length) (h2:b.length≤55) :
 zy Try.prog f_zz39 [.gp q 0,.int .i64 i,.str b] [zaw q m c] (fun r post=>r=.d (.int .i64 0)∧post=[zaw q (m+6) (c.set i b)]):=by
 intro R G σ hs
 obtain ⟨p,d,hd,h⟩:=Sep.slt hs
 have hl:=hd.len
 have hmo:=hd.lv.ok.most
 have hst:=hd.lv.st
 obtain ⟨k1,k2⟩:=hd.put hm hi h2 h1
 refine (z5p q p d 0 c.length i b (by omega) (by omega) (by omega) R G σ h).mono fun r σ' G' ⟨h1,post,⟨h2,h3⟩,h4⟩=>⟨h1,_,⟨?_,rfl⟩,?_⟩
 · rw [h2,k1]
 · subst h3;exact Sep.of_slt k2 (by rw [List.length_set];exact h4)
theorem zf2 (q:Nat) (m:Int) (c:List Str) (hm:m≤600000000) (i:Nat) (hi:i<c.length) :
 zy Try.prog f_zz31 [.gp q 0,.int .i64 i] [zaw q m c] (fun r post=>r=.d (.int .i64 0)∧post=[zaw q (m+6) (c.set i [])]):=by
 intro R G σ hs
 obtain ⟨p,d,hd,h⟩:=Sep.slt hs
 have hl:=hd.len
 have hmo:=hd.lv.ok.most
 have hst:=hd.lv.st
 obtain ⟨k1,k2⟩:=hd.kill hm hi
 refine (z1g q p d 0 c.length i (by omega) (by omega) (by omega) R G σ h).mono fun r σ' G' ⟨h1,post,⟨h2,h3⟩,h4⟩=>⟨h1,_,⟨?_,rfl⟩,?_⟩
 · rw [h2,k1]
 · subst h3;exact Sep.of_slt k2 (by rw [List.length_set];exact h4)
theorem lvF {n:Nat} (h1:1≤n) (h2:n≤65536):Lv (fresh n) 0:=⟨zop h1 h2,rfl,rfl,fun c hc=>by obtain rfl:=(List.mem_replicate.1 hc).2;rfl,by simp [fresh]⟩
theorem zwe (p:Nat) (d:Dk) (m:Int) (hd:Lv d m) (h0:0≤m) (hm:m≤500000000) (n:Nat) (h1:1≤n) (hl:2 * n≤d.cs.length) :
 zy Try.prog f_zz57 [.gp p 0,.int .i64 0,.int .i64 n] [zp p d] (fun r post=>r=.d (.int .i64 0)∧∃ d',SlD d' (m+2 * n+1) (List.replicate n [])∧post=[zp p d']):=by
 intro R G σ hs
 have hst:=hd.st
 obtain ⟨k1,k2⟩:=SlD.fmt hd h0 (by omega) h1 hl
 refine (zoe p d 0 n (by omega) R G σ hs).mono fun r σ' G' ⟨h1,post,⟨h2,h3⟩,h4⟩=>⟨h1,_,⟨by rw [h2,k1],_,k2,rfl⟩,by subst h3;exact h4⟩
theorem zyx (p:Nat) (d:Dk) (m:Int) (c:List Str) (hd:SlD d m c) (hm:m≤500000000) (h1:1≤c.length) :
 zy Try.prog f_zz63 [.gp p 0,.int .i64 0,.int .i64 c.length] [zp p d] (fun r post=>∃ q,r=.tup [.gp q 0,.list [],.int .i64 0]∧post=[zaw q m c]):=by
 intro R G σ hs
 have hst:=hd.lv.st
 have ho:=hd.opn (by omega) h1
 refine (zyd p d 0 c.length (by omega) R G σ hs).mono fun r σ' G' ⟨h1,post,h2,h4⟩=>⟨h1,?_⟩
 rw [ho] at h2
 rcases h2 with ⟨_,q,h5,h6⟩|⟨h5,_⟩
 · exact ⟨_,⟨q,h5,rfl⟩,by subst h6;exact Sep.of_slt hd h4⟩
 · exact absurd rfl h5
end Go.Proofs.Ytlejjdbmmdghmaa
namespace C40
open C22
def b6 (n:Nat) (k:Nat):UInt8:=UInt8.ofNat (n / 256 ^ (5 - k))
def zeg (n:Nat):Str:=[b6 n 0,b6 n 1,b6 n 2,b6 n 3,b6 n 4,b6 n 5]
theorem za4 (n:Nat):(zeg n).length=6:=rfl
theorem zp9 (n:Nat) (s:Str):zeg n++s≠[]:=by simp [zeg]
def vk (s:Str) (k:Nat):Nat:=(s.take k).foldl (fun a b=>a * 256+b.toNat) 0
def zo4 (s:Str):Nat:=vk s 6
theorem zwf {s:Str} {k:Nat} (h:k<s.length):vk s (k+1)=vk s k * 256+s[k].toNat:=by
 unfold vk
 rw [List.take_add_one,List.getElem?_eq_getElem h,List.foldl_append]
 rfl
theorem vk_lt (s:Str) (k:Nat):vk s k<256 ^ k:=by
 induction k with
 | zero=>simp [vk]
 | succ k ih =>
  rcases Nat.lt_or_ge k s.length with h|h
  · rw [zwf h,Nat.pow_succ]
    have:=s[k].toNat_lt
    omega
  · have e:vk s (k+1)=vk s k:=by unfold vk;rw [List.take_of_length_le h,List.take_of_length_le (by omega)]
    rw [e,Nat.pow_succ];omega
theorem zmv {n:Nat} (h:n<281474976710656) (s:Str):zo4 (zeg n++s)=n:=by
 simp only [zo4,vk,zeg,List.cons_append,List.nil_append,List.take_succ_cons,List.take_zero,List.foldl_cons,List.foldl_nil,b6,UInt8.toNat_ofNat']
 omega
end C40
namespace Go.Proofs.Ytlejjdbmmdghmaa
open Go Go.E2 C22 C40
set_option maxHeartbeats 1000000
theorem z5w {A b:Nat} (hA:A % 256=0) (hb:b<256) (hx:A+b<281474976710656):zb6 .or (.int .i64 (A:Int)) (.int .i64 (b:Int))=some (.int .i64 ((A+b:Nat):Int)):=by
 have h:=zxy 64 (a:=(A:Int)) (b:=(b:Int)) (by omega) (by omega) (by omega) (by omega)
 have e:(A:Int).toNat ||| (b:Int).toNat=A+b:=by
  rw [Int.toNat_natCast,Int.toNat_natCast]
  have e1:A=2 ^ 8 * (A / 256):=by omega
  have:=Nat.two_pow_add_eq_or_of_lt (i:=8) (b:=b) hb (A / 256)
  rw [← e1] at this
  exact this.symm
 simp only [zb6,if_true]
 have hb:IntKind.i64.bits=64:=rfl
 rw [hb,h,e]
 congr 2
 exact wrap_i64 (by omega) (by omega)
theorem zen (s:Str) (hs:6≤s.length) (hs2:s.length≤1000):zba Try.prog f_zz68 [.str s] (·=.d (.int .i64 (zo4 s))):=by
 refine zal fol zz68_cp ?_
 refine goS trivial ?_
 refine goR trivial ?_
 refine W.loop (fun m st=>∃ k,m+k=6∧st=(E [(0,.d (.str s)),(3,.d (.int .i64 (vk s k:Nat))),(5,.d (.int .i64 (k:Nat)))],HB [],[],zdi))
  ⟨_,_,zb7,0,rfl,rfl⟩ ?_
 rintro m st ⟨k,hk,rfl⟩
 by_cases hk6:k<6
 · have h1:(k:Int)<6:=by omega
   have hv:=vk_lt s k
   have hv5:vk s k<1099511627776:=Nat.lt_of_lt_of_le hv (Nat.pow_le_pow_right (n:=256) (by omega) (show k≤5 by omega))
   have hlt:k<s.length:=by omega
   have hb:=s[k].toNat_lt
   have hor:=z5w (A:=vk s k * 256) (b:=s[k].toNat) (by omega) (by omega) (by omega)
   have hsucc:=zwf hlt
   simp only [Int.natCast_add,Int.natCast_mul,Int.cast_ofNat_Int] at hor
   have hcast:((vk s k:Nat):Int) * 256+(s[k].toNat:Int)=((vk s (k+1):Nat):Int):=by rw [hsucc];omega
   rw [hcast] at hor
   (refine goX (nn h1 hor) ?_;(repeat' (with_reducible apply Br.mk<;>intro _)))
   exact ⟨5 - k,_,by omega,zb7,k+1,by omega,rfl⟩
 · have:k=6:=by omega
   subst this
   (refine goX trivial ?_;(repeat' (with_reducible apply Br.mk<;>intro _)))
   exact Fin.p rfl rfl
def bs6 (n:Nat) (k:Nat):List D:=((zeg n).take k).map eB++List.replicate (6 - k) (.int .u8 0)
theorem zie {x:Int} {n k:Nat} (h:x % 256=((n / 256 ^ (5 - k):Nat):Int) % 256):D.int .u8 (IntKind.u8.wrap x)=eB (b6 n k):=by
 unfold eB b6
 congr 1
theorem bs6_0 {n:Nat} (hn:n<281474976710656):D.int .u8 ((n:Int) / 1099511627776)::(bs6 n 0).drop 1=bs6 n 1:=by
 have:=zie (x:=(n:Int) / 1099511627776) (n:=n) (k:=0) (by simp only [Nat.reducePow,Nat.reduceSub];omega)
 rw [zpj (by omega) (by omega)] at this
 rw [this];rfl
theorem bs6_1 (n:Nat):(bs6 n 1).take 1++[D.int .u8 (IntKind.u8.wrap ((n:Int) / 4294967296))]++(bs6 n 1).drop 2=bs6 n 2:=by
 rw [zie (n:=n) (k:=1) (by simp only [Nat.reducePow,Nat.reduceSub];omega)];rfl
theorem bs6_2 (n:Nat):(bs6 n 2).take 2++[D.int .u8 (IntKind.u8.wrap ((n:Int) / 16777216))]++(bs6 n 2).drop 3=bs6 n 3:=by
 rw [zie (n:=n) (k:=2) (by simp only [Nat.reducePow,Nat.reduceSub];omega)];rfl
theorem bs6_3 (n:Nat):(bs6 n 3).take 3++[D.int .u8 (IntKind.u8.wrap ((n:Int) / 65536))]++(bs6 n 3).drop 4=bs6 n 4:=by
 rw [zie (n:=n) (k:=3) (by simp only [Nat.reducePow,Nat.reduceSub];omega)];rfl
theorem bs6_4 (n:Nat):(bs6 n 4).take 4++[D.int .u8 (IntKind.u8.wrap ((n:Int) / 256))]++(bs6 n 4).drop 5=bs6 n 5:=by
 rw [zie (n:=n) (k:=4) (by simp only [Nat.reducePow,Nat.reduceSub];omega)];rfl
theorem bs6_5 (n:Nat):(bs6 n 5).take 5++[D.int .u8 (IntKind.u8.wrap ((n:Int) / 1))]++(bs6 n 5).drop 6=bs6 n 6:=by
 rw [zie (n:=n) (k:=5) (by simp only [Nat.reducePow,Nat.reduceSub];omega)];rfl
theorem zyy (n:Nat) (hn:n<281474976710656) (σ:List Hp) (G:Gh):zbb Try.prog f_zz66 ([.int .i64 n].map .d) σ G fun r σ' _G'=>σ'=σ∧r=.d (.str (zeg n)):=by
 refine zap fol zz66_cp ?_
 refine goS trivial ?_
 refine goR trivial ?_
 refine zam fun u hu=>?_
 refine goS trivial ?_
 refine goR trivial ?_
 have e0:rep 6 [.int .u8 0]=bs6 n 0:=rfl
 rw [e0]
 refine W.loop (fun m st=>∃ k,m+k=6∧st=(E [(0,.d (.int .i64 (n:Nat))),(3,.d (.gs u 0 6 6)),(7,.d (.int .i64 6)),(8,.d (.int .i64 (k:Nat)))],HB [],σ,G.set u (some (bs6 n k))))
  ⟨_,_,zb7,0,rfl,rfl⟩ ?_
 rintro m st ⟨k,hk,rfl⟩
 by_cases hk6:k<6
 · have h1:(k:Int)<6:=by omega
   have hkk:k=0∨k=1∨k=2∨k=3∨k=4∨k=5:=by omega
   have hl:(bs6 n k).length=6:=by rcases hkk with rfl|rfl|rfl|rfl|rfl|rfl<;>rfl
   rcases hkk with rfl|rfl|rfl|rfl|rfl|rfl
   · (refine goX (nn h1 hl) ?_;(repeat' (with_reducible apply Br.mk<;>intro _)))
     rw [bs6_0 hn]
     exact ⟨5,_,by omega,zb7,1,by omega,rfl⟩
   · (refine goX (nn h1 hl) ?_;(repeat' (with_reducible apply Br.mk<;>intro _)))
     rw [bs6_1]
     exact ⟨4,_,by omega,zb7,2,by omega,rfl⟩
   · (refine goX (nn h1 hl) ?_;(repeat' (with_reducible apply Br.mk<;>intro _)))
     rw [bs6_2]
     exact ⟨3,_,by omega,zb7,3,by omega,rfl⟩
   · (refine goX (nn h1 hl) ?_;(repeat' (with_reducible apply Br.mk<;>intro _)))
     rw [bs6_3]
     exact ⟨2,_,by omega,zb7,4,by omega,rfl⟩
   · (refine goX (nn h1 hl) ?_;(repeat' (with_reducible apply Br.mk<;>intro _)))
     rw [bs6_4]
     exact ⟨1,_,by omega,zb7,5,by omega,rfl⟩
   · (refine goX (nn h1 hl) ?_;(repeat' (with_reducible apply Br.mk<;>intro _)))
     rw [bs6_5]
     exact ⟨0,_,by omega,zb7,6,by omega,rfl⟩
 · have:k=6:=by omega
   subst this
   (refine goX trivial ?_;(repeat' (with_reducible apply Br.mk<;>intro _)))
   have hv:zb2 (G.set u (some (bs6 n 6))) 1 (.gs u 0 6 6)=some (6,bs6 n 6):=by
    simp only [zb2,Gh.set_c,upd,if_true]
    rfl
   have hb:zbh (bs6 n 6)=some (zeg n):=by
    show zbh ((zeg n).map eB)=_
    exact zfs _
   refine zjx (z0u hv hb) ?_
   refine goS trivial ?_
   refine goR trivial ?_
   exact Fin.eq rfl ⟨rfl,rfl⟩
theorem zf3 (n:Nat) (hn:n<281474976710656):zba Try.prog f_zz66 [.int .i64 n] (·=.d (.str (zeg n))) :=
 zba.of_deep ((zyy n hn [] zdi).mono fun r σ' G' ⟨h1,h2⟩=>⟨h1,_,by rw [h2];exact .refl _,rfl⟩)
end Go.Proofs.Ytlejjdbmmdghmaa
namespace Go.Proofs.Ytlejjdbmmdghmaa
open Go Go.E2 C22 C40
set_option maxHeartbeats 1000000
abbrev eSt (q:Nat):D:=.ifc 170 q 0
def rd1 (b:Str) (least:Int):Str×Int:=if b=[] then ([],0) else if (b.length:Int)<least then ([],14) else (b,0)
theorem zgq (q:Nat) (m:Int) (c:List Str) (hm:m≤600000000) (i:Nat) (hi:i<c.length) (hl:c[i].length≤60) (least:Int) :
 zy Try.prog f_zz71 [eSt q,.int .i64 i,.int .i64 least] [zaw q m c] (fun r post=>r=.tup [.str (rd1 c[i] least).1,.int .i64 (rd1 c[i] least).2]∧post=[zaw q m c]):=by
 refine zg fol zz71_cp fun R G σ hs=>?_
 have hs:Sep ([zaw q m c]++R) G:=hs
 refine goS trivial ?_
 refine goR trivial ?_
 (refine goI (z1u q m c hm i hi) (hs) ?_)
 rintro _ _ G1 ⟨rfl,rfl⟩ h1
 have h1:Sep (zaw q m c::R) G1:=h1
 generalize c[i]=b at hl ⊢
 by_cases hb:b=[]
 · have e:rd1 b least=([],0):=by unfold rd1;rw [if_pos hb]
   rw [e]
   subst hb
   refine goS trivial ?_
   refine goR trivial ?_
   exact Fin.eq rfl ⟨rfl,_,⟨rfl,rfl⟩,h1⟩
 · by_cases h2:(b.length:Int)<least
   · have e:rd1 b least=([],14):=by unfold rd1;rw [if_neg hb,if_pos h2]
     rw [e]
     refine goS hb ?_
     (refine goX (nn h2 hb) ?_;(repeat' (with_reducible apply Br.mk<;>intro _)))
     exact Fin.eq rfl ⟨rfl,_,⟨rfl,rfl⟩,h1⟩
   · have e:rd1 b least=(b,0):=by unfold rd1;rw [if_neg hb,if_neg h2]
     rw [e]
     have h2':((b.length:Int)<least)=False:=eq_false h2
     refine goS hb ?_
     (refine goX (nn h2' hb) ?_;(repeat' (with_reducible apply Br.mk<;>intro _)))
     exact Fin.eq rfl ⟨rfl,_,⟨rfl,rfl⟩,h1⟩
structure Tw where
 key:Int
 ver:Int
 val:Str
 rd:Bool
structure Wr where
 slot:Int
 l:List Tw
abbrev eTw (x:Tw):D:=.agg [.int .i64 x.key,.int .i64 x.ver,.str x.val,.bool x.rd]
abbrev eL (l:List Tw):D:=.list (l.map eTw)
abbrev eWr (w:Wr):D:=.agg [.int .i64 w.slot,eL w.l]
def SiA (sb q mr n:Nat):As:=ze sb [eSt q,.int .i64 n,.mref mr]
abbrev MwA (mr:Nat) (ws:List (Int×Wr)):As:=zo2 [.i] eI eWr mr ws
def zee (sb n:Nat) (m:Int) (c:List Str) (ws:List (Int×Wr)):As:=fun G=>∃ q mr,zz5 [SiA sb q mr n,zaw q m c,MwA mr ws] G
theorem Sep.sit {sb n:Nat} {m:Int} {c:List Str} {ws:List (Int×Wr)} {R:List As} {G:Gh} (h:Sep (zee sb n m c ws::R) G):∃ q mr,Sep (SiA sb q mr n::zaw q m c::MwA mr ws::R) G:=by
 obtain ⟨G1,G2,h1,h2,h3,⟨q,mr,h4⟩,h5⟩:=h
 exact ⟨q,mr,Sep.app (l:=[_,_,_]) ⟨G1,G2,h1,h2,h3,h4,h5⟩⟩
theorem Sep.of_sit {sb n q mr:Nat} {m:Int} {c:List Str} {ws:List (Int×Wr)} {R:List As} {G:Gh} (h:Sep (SiA sb q mr n::zaw q m c::MwA mr ws::R) G):Sep (zee sb n m c ws::R) G :=
 (Sep.of_app (l:=[SiA sb q mr n,zaw q m c,MwA mr ws]) h).imp fun _G hG=>⟨q,mr,hG⟩
theorem Sep.slt_mono {q:Nat} {m k:Int} {c:List Str} {R:List As} {G:Gh} (hk:m≤k) (h:Sep (zaw q m c::R) G):Sep (zaw q k c::R) G :=
 h.imp fun _ ⟨p,d,hd,h⟩=>⟨p,d,hd.mono hk,h⟩
theorem Sep.sit_mono {sb n:Nat} {m k:Int} {c:List Str} {ws:List (Int×Wr)} {R:List As} {G:Gh} (hk:m≤k) (h:Sep (zee sb n m c ws::R) G):Sep (zee sb n k c ws::R) G:=by
 obtain ⟨q,mr,h1⟩:=Sep.sit h
 exact Sep.of_sit ((Sep.slt_mono hk h1.swap).swap)
def getR (n:Nat) (c:List Str) (k:Int):Int×Str×Int :=
 if k<0∨(n:Int)≤k then (0,[],1) else
 match c[2 * k.toNat]? with
 | none=>(0,[],1)
 | some b=>if b=[] then (0,[],0) else if b.length<6 then (0,[],14) else (zo4 b,b.drop 6,0)
theorem zrx (sb n:Nat) (m:Int) (c:List Str) (ws:List (Int×Wr)) (hm:m≤600000000) (hn:n≤16) (hc:c.length=2 * n+4) (hl:∀ b∈c,b.length≤60) (k:Int) :
 zy Try.prog f_zz60 [.gp sb 0,.int .i64 k] [zee sb n m c ws] (fun r post=>r=.tup [.agg [.int .i64 (getR n c k).1,.str (getR n c k).2.1],.int .i64 (getR n c k).2.2]∧post=[zee sb n m c ws]):=by
 refine zg fol zz60_cp fun R G σ hs=>?_
 obtain ⟨q,mr,h1⟩:=Sep.sit hs
 have hg:=Sep.get (b:=sb) (cs:=[eSt q,.int .i64 n,.mref mr]) h1
 by_cases k0:k<0
 · have e:getR n c k=(0,[],1):=by unfold getR;rw [if_pos (.inl k0)]
   rw [e]
   refine goS trivial ?_
   (refine goX (nn k0 hg) ?_;(repeat' (with_reducible apply Br.mk<;>intro _)))
   exact Fin.eq rfl ⟨rfl,_,⟨rfl,rfl⟩,hs⟩
 have k0':(k<0)=False:=eq_false k0
 by_cases k1:(n:Int)≤k
 · have e:getR n c k=(0,[],1):=by unfold getR;rw [if_pos (.inr k1)]
   rw [e]
   refine goS trivial ?_
   (refine goX (nn k0' (nn hg k1)) ?_;(repeat' (with_reducible apply Br.mk<;>intro _)))
   exact Fin.eq rfl ⟨rfl,_,⟨rfl,rfl⟩,hs⟩
 have k1':((n:Int)≤k)=False:=eq_false k1
 obtain ⟨j,rfl⟩:=Int.eq_ofNat_of_zero_le (show 0≤k by omega)
 have hj:2 * j<c.length:=by omega
 have hmem:c[2 * j].length≤60:=hl _ (List.getElem_mem hj)
 have h2:Sep (zaw q m c::SiA sb q mr n::MwA mr ws::R) G:=h1.perm pp
 refine goS trivial ?_
 (refine goX (nn k0' (nn hg k1')) ?_;(repeat' (with_reducible apply Br.mk<;>intro _)))
 have e2:(2:Int) * (j:Int)=((2 * j:Nat):Int):=by omega
 try rw [e2]
 have h2':Sep ([zaw q m c]++(SiA sb q mr n::MwA mr ws::R)) G:=h2
 (refine goM (zgq q m c hm (2 * j) hj hmem 6) (h2') ?_)
 rintro _ _ G1 ⟨rfl,rfl⟩ h3
 have h3:Sep (zaw q m c::SiA sb q mr n::MwA mr ws::R) G1:=h3
 have h4:Sep ([zee sb n m c ws]++R) G1:=Sep.of_sit (h3.perm pp)
 have hget:c[2 * j]?=some c[2 * j]:=List.getElem?_eq_getElem hj
 have hR:getR n c j=(if c[2 * j]=[] then (0,[],0) else if c[2 * j].length<6 then (0,[],14) else ((zo4 c[2 * j]:Int),c[2 * j].drop 6,0)):=by
  unfold getR
  rw [if_neg (by omega),Int.toNat_natCast,hget]
 generalize c[2 * j]=b at hmem hR ⊢
 by_cases hb:b=[]
 · have e:rd1 b 6=([],0):=by unfold rd1;rw [if_pos hb]
   rw [hR,e,if_pos hb]
   refine goS trivial ?_
   (refine goX trivial ?_;(repeat' (with_reducible apply Br.mk<;>intro _)))
   exact Fin.eq rfl ⟨rfl,_,⟨rfl,rfl⟩,h4⟩
 · by_cases hb6:b.length<6
   · have e:rd1 b 6=([],14):=by unfold rd1;rw [if_neg hb,if_pos (by omega)]
     rw [hR,e,if_neg hb,if_pos hb6]
     refine goS trivial ?_
     (refine goX trivial ?_;(repeat' (with_reducible apply Br.mk<;>intro _)))
     exact Fin.eq rfl ⟨rfl,_,⟨rfl,rfl⟩,h4⟩
   · have e:rd1 b 6=(b,0):=by unfold rd1;rw [if_neg hb,if_neg (by omega)]
     rw [hR,e,if_neg hb,if_neg hb6]
     refine goS trivial ?_
     (refine zb1 hb (zen b (by omega) (by omega)) ?_;(repeat' (with_reducible apply Br.mk<;>intro _)))
     exact Fin.eq rfl ⟨rfl,_,⟨rfl,rfl⟩,h4⟩
end Go.Proofs.Ytlejjdbmmdghmaa
