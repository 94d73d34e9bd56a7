/-
 Layer 40 (txn): value and number.
 Conditions: of each contract as it says.
-/
import Derived.Test.YtlejjdbmmdghmaaK1
import Derived.Test.YtlejjdbmmdghmaaS52
import Derived.Test.YtlejjdbmmdghmaaT40h
set_option linter.unusedSimpArgs false
namespace Go.Proofs.Ytlejjdbmmdghmaa
open Go Go.E2 C22 C40
set_option maxHeartbeats 1000000
theorem z5p {A b:Nat} (hA:A % 256=0) (hb:b<256) (hx:A+b<281474976710656):zb6 .or (.int .i64 (A:Int)) (.int .i64 (b:Int))=some (.int .i64 ((A+b:Nat):Int)):=by
 have h:=zxb 64 (a:=(A:Int)) (b:=(b:Int)) (by omega) (by omega) (by omega) (by omega)
 have e:(A:Int).toNat ||| (b:Int).toNat=A+b:=by
  rw [Int.toNat_natCast,Int.toNat_natCast]
  have e1:A=2 ^ 8 * (A / 256):=by omega
  have:=Nat.two_pow_add_eq_or_of_lt (i:=8) (b:=b) hb (A / 256)
  rw [← e1] at this
  exact this.symm
 simp only [zb6,if_true]
 have hb:IntKind.i64.bits=64:=rfl
 rw [hb,h,e]
 congr 2
 exact wrap_i64 (by omega) (by omega)
theorem zei (s:Str) (hs:6≤s.length) (hs2:s.length≤1000):zb2 Try.prog f_zz57 [.str s] (·=.d (.int .i64 (zsu s))):=by
 refine zdf fol zz57_cp ?_
 refine goS trivial ?_
 refine goR trivial ?_
 refine W.loop (fun m st=>∃ k,m+k=6∧st=(E [(0,.d (.str s)),(3,.d (.int .i64 (vk s k:Nat))),(5,.d (.int .i64 (k:Nat)))],HB [],[],zel))
  ⟨_,_,zca,0,rfl,rfl⟩ ?_
 rintro m st ⟨k,hk,rfl⟩
 by_cases hk6:k<6
 · have h1:(k:Int)<6:=by omega
   have hv:=vk_lt s k
   have hv5:vk s k<1099511627776:=Nat.lt_of_lt_of_le hv (Nat.pow_le_pow_right (n:=256) (by omega) (show k≤5 by omega))
   have hlt:k<s.length:=by omega
   have hb:=s[k].toNat_lt
   have hor:=z5p (A:=vk s k * 256) (b:=s[k].toNat) (by omega) (by omega) (by omega)
   have hsucc:=zvq hlt
   simp only [Int.natCast_add,Int.natCast_mul,Int.cast_ofNat_Int] at hor
   have hcast:((vk s k:Nat):Int) * 256+(s[k].toNat:Int)=((vk s (k+1):Nat):Int):=by rw [hsucc];omega
   rw [hcast] at hor
   (refine goX (nn h1 hor) ?_;(repeat' (with_reducible apply Br.mk<;>intro _)))
   exact ⟨5 - k,_,by omega,zca,k+1,by omega,rfl⟩
 · have:k=6:=by omega
   subst this
   (refine goX trivial ?_;(repeat' (with_reducible apply Br.mk<;>intro _)))
   exact Fin.p rfl rfl
def bs6 (n:Nat) (k:Nat):List D:=((zfe n).take k).map eB++List.replicate (6 - k) (.int .u8 0)
theorem zh7 {x:Int} {n k:Nat} (h:x % 256=((n / 256 ^ (5 - k):Nat):Int) % 256):D.int .u8 (IntKind.u8.wrap x)=eB (b6 n k):=by
 unfold eB b6
 congr 1
theorem bs6_0 {n:Nat} (hn:n<281474976710656):D.int .u8 ((n:Int) / 1099511627776)::(bs6 n 0).drop 1=bs6 n 1:=by
 have:=zh7 (x:=(n:Int) / 1099511627776) (n:=n) (k:=0) (by simp only [Nat.reducePow,Nat.reduceSub];omega)
 rw [zo6 (by omega) (by omega)] at this
 rw [this];rfl
theorem bs6_1 (n:Nat):(bs6 n 1).take 1++[D.int .u8 (IntKind.u8.wrap ((n:Int) / 4294967296))]++(bs6 n 1).drop 2=bs6 n 2:=by
 rw [zh7 (n:=n) (k:=1) (by simp only [Nat.reducePow,Nat.reduceSub];omega)];rfl
theorem bs6_2 (n:Nat):(bs6 n 2).take 2++[D.int .u8 (IntKind.u8.wrap ((n:Int) / 16777216))]++(bs6 n 2).drop 3=bs6 n 3:=by
 rw [zh7 (n:=n) (k:=2) (by simp only [Nat.reducePow,Nat.reduceSub];omega)];rfl
theorem bs6_3 (n:Nat):(bs6 n 3).take 3++[D.int .u8 (IntKind.u8.wrap ((n:Int) / 65536))]++(bs6 n 3).drop 4=bs6 n 4:=by
 rw [zh7 (n:=n) (k:=3) (by simp only [Nat.reducePow,Nat.reduceSub];omega)];rfl
theorem bs6_4 (n:Nat):(bs6 n 4).take 4++[D.int .u8 (IntKind.u8.wrap ((n:Int) / 256))]++(bs6 n 4).drop 5=bs6 n 5:=by
 rw [zh7 (n:=n) (k:=4) (by simp only [Nat.reducePow,Nat.reduceSub];omega)];rfl
theorem bs6_5 (n:Nat):(bs6 n 5).take 5++[D.int .u8 (IntKind.u8.wrap ((n:Int) / 1))]++(bs6 n 5).drop 6=bs6 n 6:=by
 rw [zh7 (n:=n) (k:=5) (by simp only [Nat.reducePow,Nat.reduceSub];omega)];rfl
theorem zx3 (n:Nat) (hn:n<281474976710656) (σ:List Hp) (G:Gh):zaq Try.prog f_zz55 ([.int .i64 n].map .d) σ G fun r σ' _G'=>σ'=σ∧r=.d (.str (zfe n)):=by
 refine zbl fol zz55_cp ?_
 refine goS trivial ?_
 refine goR trivial ?_
 refine zam fun u hu=>?_
 refine goS trivial ?_
 refine goR trivial ?_
 have e0:rep 6 [.int .u8 0]=bs6 n 0:=rfl
 rw [e0]
 refine W.loop (fun m st=>∃ k,m+k=6∧st=(E [(0,.d (.int .i64 (n:Nat))),(3,.d (.gs u 0 6 6)),(7,.d (.int .i64 6)),(8,.d (.int .i64 (k:Nat)))],HB [],σ,G.set u (some (bs6 n k))))
  ⟨_,_,zca,0,rfl,rfl⟩ ?_
 rintro m st ⟨k,hk,rfl⟩
 by_cases hk6:k<6
 · have h1:(k:Int)<6:=by omega
   have hkk:k=0∨k=1∨k=2∨k=3∨k=4∨k=5:=by omega
   have hl:(bs6 n k).length=6:=by rcases hkk with rfl|rfl|rfl|rfl|rfl|rfl<;>rfl
   rcases hkk with rfl|rfl|rfl|rfl|rfl|rfl
   · (refine goX (nn h1 hl) ?_;(repeat' (with_reducible apply Br.mk<;>intro _)))
     rw [bs6_0 hn]
     exact ⟨5,_,by omega,zca,1,by omega,rfl⟩
   · (refine goX (nn h1 hl) ?_;(repeat' (with_reducible apply Br.mk<;>intro _)))
     rw [bs6_1]
     exact ⟨4,_,by omega,zca,2,by omega,rfl⟩
   · (refine goX (nn h1 hl) ?_;(repeat' (with_reducible apply Br.mk<;>intro _)))
     rw [bs6_2]
     exact ⟨3,_,by omega,zca,3,by omega,rfl⟩
   · (refine goX (nn h1 hl) ?_;(repeat' (with_reducible apply Br.mk<;>intro _)))
     rw [bs6_3]
     exact ⟨2,_,by omega,zca,4,by omega,rfl⟩
   · (refine goX (nn h1 hl) ?_;(repeat' (with_reducible apply Br.mk<;>intro _)))
     rw [bs6_4]
     exact ⟨1,_,by omega,zca,5,by omega,rfl⟩
   · (refine goX (nn h1 hl) ?_;(repeat' (with_reducible apply Br.mk<;>intro _)))
     rw [bs6_5]
     exact ⟨0,_,by omega,zca,6,by omega,rfl⟩
 · have:k=6:=by omega
   subst this
   (refine goX trivial ?_;(repeat' (with_reducible apply Br.mk<;>intro _)))
   have hv:zbv (G.set u (some (bs6 n 6))) 1 (.gs u 0 6 6)=some (6,bs6 n 6):=by
    simp only [zbv,Gh.set_c,upd,if_true]
    rfl
   have hb:zbh (bs6 n 6)=some (zfe n):=by
    show zbh ((zfe n).map eB)=_
    exact zd7 _
   refine zjr (z0e hv hb) ?_
   refine goS trivial ?_
   refine goR trivial ?_
   exact Fin.eq rfl ⟨rfl,rfl⟩
theorem zft (n:Nat) (hn:n<281474976710656):zb2 Try.prog f_zz55 [.int .i64 n] (·=.d (.str (zfe n))) :=
 zb2.of_deep ((zx3 n hn [] zel).mono fun r σ' G' ⟨h1,h2⟩=>⟨h1,_,by rw [h2];exact .refl _,rfl⟩)
end Go.Proofs.Ytlejjdbmmdghmaa
namespace Go.Proofs.Ytlejjdbmmdghmaa
open Go Go.E2 C22 C40
set_option maxHeartbeats 1000000
abbrev eSt (q:Nat):D:=.ifc 170 q 0
def rd1 (b:Str) (least:Int):Str×Int:=if b=[] then ([],0) else if (b.length:Int)<least then ([],14) else (b,0)
theorem zgl (q:Nat) (m:Int) (c:List Str) (hm:m≤600000000) (i:Nat) (hi:i<c.length) (hl:c[i].length≤60) (least:Int) :
 zy Try.prog f_zz60 [eSt q,.int .i64 i,.int .i64 least] [zaw q m c] (fun r post=>r=.tup [.str (rd1 c[i] least).1,.int .i64 (rd1 c[i] least).2]∧post=[zaw q m c]):=by
 refine zf fol zz60_cp fun R G σ hs=>?_
 have hs:Sep ([zaw q m c]++R) G:=hs
 refine goS trivial ?_
 refine goR trivial ?_
 (refine goI (z03 q m c hm i hi) (hs) ?_)
 rintro _ _ G1 ⟨rfl,rfl⟩ h1
 have h1:Sep (zaw q m c::R) G1:=h1
 generalize c[i]=b at hl ⊢
 by_cases hb:b=[]
 · have e:rd1 b least=([],0):=by unfold rd1;rw [if_pos hb]
   rw [e]
   subst hb
   refine goS trivial ?_
   refine goR trivial ?_
   exact Fin.eq rfl ⟨rfl,_,⟨rfl,rfl⟩,h1⟩
 · by_cases h2:(b.length:Int)<least
   · have e:rd1 b least=([],14):=by unfold rd1;rw [if_neg hb,if_pos h2]
     rw [e]
     refine goS hb ?_
     (refine goX (nn h2 hb) ?_;(repeat' (with_reducible apply Br.mk<;>intro _)))
     exact Fin.eq rfl ⟨rfl,_,⟨rfl,rfl⟩,h1⟩
   · have e:rd1 b least=(b,0):=by unfold rd1;rw [if_neg hb,if_neg h2]
     rw [e]
     have h2':((b.length:Int)<least)=False:=eq_false h2
     refine goS hb ?_
     (refine goX (nn h2' hb) ?_;(repeat' (with_reducible apply Br.mk<;>intro _)))
     exact Fin.eq rfl ⟨rfl,_,⟨rfl,rfl⟩,h1⟩
structure Tw where
 key:Int
 ver:Int
 val:Str
 rd:Bool
structure Wr where
 slot:Int
 l:List Tw
abbrev eTw (x:Tw):D:=.agg [.int .i64 x.key,.int .i64 x.ver,.str x.val,.bool x.rd]
abbrev eL (l:List Tw):D:=.list (l.map eTw)
abbrev eWr (w:Wr):D:=.agg [.int .i64 w.slot,eL w.l]
def SiA (sb q mr n:Nat):As:=ze sb [eSt q,.int .i64 n,.mref mr]
abbrev MwA (mr:Nat) (ws:List (Int×Wr)):As:=zop [.i] eI eWr mr ws
def zbq (sb n:Nat) (m:Int) (c:List Str) (ws:List (Int×Wr)):As:=fun G=>∃ q mr,zzi [SiA sb q mr n,zaw q m c,MwA mr ws] G
theorem Sep.sit {sb n:Nat} {m:Int} {c:List Str} {ws:List (Int×Wr)} {R:List As} {G:Gh} (h:Sep (zbq sb n m c ws::R) G):∃ q mr,Sep (SiA sb q mr n::zaw q m c::MwA mr ws::R) G:=by
 obtain ⟨G1,G2,h1,h2,h3,⟨q,mr,h4⟩,h5⟩:=h
 exact ⟨q,mr,Sep.app (l:=[_,_,_]) ⟨G1,G2,h1,h2,h3,h4,h5⟩⟩
theorem Sep.of_sit {sb n q mr:Nat} {m:Int} {c:List Str} {ws:List (Int×Wr)} {R:List As} {G:Gh} (h:Sep (SiA sb q mr n::zaw q m c::MwA mr ws::R) G):Sep (zbq sb n m c ws::R) G :=
 (Sep.of_app (l:=[SiA sb q mr n,zaw q m c,MwA mr ws]) h).imp fun _G hG=>⟨q,mr,hG⟩
theorem Sep.slt_mono {q:Nat} {m k:Int} {c:List Str} {R:List As} {G:Gh} (hk:m≤k) (h:Sep (zaw q m c::R) G):Sep (zaw q k c::R) G :=
 h.imp fun _ ⟨p,d,hd,h⟩=>⟨p,d,hd.mono hk,h⟩
theorem Sep.sit_mono {sb n:Nat} {m k:Int} {c:List Str} {ws:List (Int×Wr)} {R:List As} {G:Gh} (hk:m≤k) (h:Sep (zbq sb n m c ws::R) G):Sep (zbq sb n k c ws::R) G:=by
 obtain ⟨q,mr,h1⟩:=Sep.sit h
 exact Sep.of_sit ((Sep.slt_mono hk h1.swap).swap)
def getR (n:Nat) (c:List Str) (k:Int):Int×Str×Int :=
 if k<0∨(n:Int)≤k then (0,[],1) else
 match c[2 * k.toNat]? with
 | none=>(0,[],1)
 | some b=>if b=[] then (0,[],0) else if b.length<6 then (0,[],14) else (zsu b,b.drop 6,0)
theorem zkb (sb n:Nat) (m:Int) (c:List Str) (ws:List (Int×Wr)) (hm:m≤600000000) (hn:n≤16) (hc:c.length=2 * n+4) (hl:∀ b∈c,b.length≤60) (k:Int) :
 zy Try.prog f_zz49 [.gp sb 0,.int .i64 k] [zbq sb n m c ws] (fun r post=>r=.tup [.agg [.int .i64 (getR n c k).1,.str (getR n c k).2.1],.int .i64 (getR n c k).2.2]∧post=[zbq sb n m c ws]):=by
 refine zf fol zz49_cp fun R G σ hs=>?_
 obtain ⟨q,mr,h1⟩:=Sep.sit hs
 have hg:=Sep.get (b:=sb) (cs:=[eSt q,.int .i64 n,.mref mr]) h1
 by_cases k0:k<0
 · have e:getR n c k=(0,[],1):=by unfold getR;rw [if_pos (.inl k0)]
   rw [e]
   refine goS trivial ?_
   (refine goX (nn k0 hg) ?_;(repeat' (with_reducible apply Br.mk<;>intro _)))
   exact Fin.eq rfl ⟨rfl,_,⟨rfl,rfl⟩,hs⟩
 have k0':(k<0)=False:=eq_false k0
 by_cases k1:(n:Int)≤k
 · have e:getR n c k=(0,[],1):=by unfold getR;rw [if_pos (.inr k1)]
   rw [e]
   refine goS trivial ?_
   (refine goX (nn k0' (nn hg k1)) ?_;(repeat' (with_reducible apply Br.mk<;>intro _)))
   exact Fin.eq rfl ⟨rfl,_,⟨rfl,rfl⟩,hs⟩
 have k1':((n:Int)≤k)=False:=eq_false k1
 obtain ⟨j,rfl⟩:=Int.eq_ofNat_of_zero_le (show 0≤k by omega)
 have hj:2 * j<c.length:=by omega
 have hmem:c[2 * j].length≤60:=hl _ (List.getElem_mem hj)
 have h2:Sep (zaw q m c::SiA sb q mr n::MwA mr ws::R) G:=h1.perm pp
 refine goS trivial ?_
 (refine goX (nn k0' (nn hg k1')) ?_;(repeat' (with_reducible apply Br.mk<;>intro _)))
 have e2:(2:Int) * (j:Int)=((2 * j:Nat):Int):=by omega
 try rw [e2]
 have h2':Sep ([zaw q m c]++(SiA sb q mr n::MwA mr ws::R)) G:=h2
 (refine goM (zgl q m c hm (2 * j) hj hmem 6) (h2') ?_)
 rintro _ _ G1 ⟨rfl,rfl⟩ h3
 have h3:Sep (zaw q m c::SiA sb q mr n::MwA mr ws::R) G1:=h3
 have h4:Sep ([zbq sb n m c ws]++R) G1:=Sep.of_sit (h3.perm pp)
 have hget:c[2 * j]?=some c[2 * j]:=List.getElem?_eq_getElem hj
 have hR:getR n c j=(if c[2 * j]=[] then (0,[],0) else if c[2 * j].length<6 then (0,[],14) else ((zsu c[2 * j]:Int),c[2 * j].drop 6,0)):=by
  unfold getR
  rw [if_neg (by omega),Int.toNat_natCast,hget]
 generalize c[2 * j]=b at hmem hR ⊢
 by_cases hb:b=[]
 · have e:rd1 b 6=([],0):=by unfold rd1;rw [if_pos hb]
   rw [hR,e,if_pos hb]
   refine goS trivial ?_
   (refine goX trivial ?_;(repeat' (with_reducible apply Br.mk<;>intro _)))
   exact Fin.eq rfl ⟨rfl,_,⟨rfl,rfl⟩,h4⟩
 · by_cases hb6:b.length<6
   · have e:rd1 b 6=([],14):=by unfold rd1;rw [if_neg hb,if_pos (by omega)]
     rw [hR,e,if_neg hb,if_pos hb6]
     refine goS trivial ?_
     (refine goX trivial ?_;(repeat' (with_reducible apply Br.mk<;>intro _)))
     exact Fin.eq rfl ⟨rfl,_,⟨rfl,rfl⟩,h4⟩
   · have e:rd1 b 6=(b,0):=by unfold rd1;rw [if_neg hb,if_neg (by omega)]
     rw [hR,e,if_neg hb,if_neg hb6]
     refine goS trivial ?_
     (refine zg1 hb (zei b (by omega) (by omega)) ?_;(repeat' (with_reducible apply Br.mk<;>intro _)))
     exact Fin.eq rfl ⟨rfl,_,⟨rfl,rfl⟩,h4⟩
end Go.Proofs.Ytlejjdbmmdghmaa
namespace Go.Proofs.Ytlejjdbmmdghmaa
open Go Go.E2 C22 C40
set_option maxHeartbeats 2000000
theorem zep (l:List Tw):(l.map eTw).all (za 4)=true:=by
 rw [List.all_eq_true];intro x hx
 obtain ⟨y,_,rfl⟩:=List.mem_map.1 hx;rfl
def okT (n:Nat) (x:Tw):Prop:=0≤x.key∧x.key<n∧0≤x.ver∧x.ver≤1099511627776∧x.val.length≤40∧(x.rd=true→x.val=[])
instance (n:Nat) (x:Tw):Decidable (okT n x):=by unfold okT;exact inferInstance
def Rgt (n:Nat) (l:List Tw):Prop:=(∀ x∈l,okT n x)∧(l.map Tw.key).Nodup∧1≤l.length∧l.length≤16
instance (n:Nat) (l:List Tw):Decidable (Rgt n l):=by unfold Rgt;exact inferInstance
def zkc:List Int→Nat
 | []=>0
 | k::ks=>zkc ks ||| 2 ^ k.toNat
theorem zx4 {ks:List Int} (h:∀ k∈ks,k<16):zkc ks<65536:=by
 induction ks with
 | nil=>decide
 | cons k ks ih =>
  have h1:=ih fun k hk=>h k (List.mem_cons_of_mem _ hk)
  have h2:=h k List.mem_cons_self
  exact Nat.or_lt_two_pow (n:=16) h1 (Nat.pow_lt_pow_right (by omega) (by omega))
theorem zsv (ks:List Int) (h0:∀ k∈ks,0≤k) (j:Nat):(zkc ks).testBit j=decide ((j:Int)∈ks):=by
 induction ks with
 | nil=>simp [zkc]
 | cons k ks ih =>
  have h2:=h0 k List.mem_cons_self
  rw [zkc,Nat.testBit_or,ih fun k hk=>h0 k (List.mem_cons_of_mem _ hk),Nat.testBit_two_pow]
  by_cases e:k.toNat=j
  · have:k=(j:Int):=by omega
    simp [e,this]
  · have:¬ (j:Int)=k:=by omega
    simp [e,this]
theorem zvr (ks:List Int) (h0:∀ k∈ks,0≤k) (j:Nat):zkc ks / 2 ^ j % 2=if (j:Int)∈ks then 1 else 0:=by
 have h:=zsv ks h0 j
 rw [Nat.testBit_eq_decide_div_mod_eq] at h
 by_cases e:(j:Int)∈ks
 · rw [if_pos e];simpa [e] using h
 · rw [if_neg e]
   have:¬ zkc ks / 2 ^ j % 2=1:=by simpa [e] using h
   omega
theorem zx5 {a b:Nat} (ha:a<65536) (hb:b<65536):zb6 .or (.int .i64 (a:Int)) (.int .i64 (b:Int))=some (.int .i64 ((a ||| b:Nat):Int)):=by
 have h:=zxb 64 (a:=(a:Int)) (b:=(b:Int)) (by omega) (by omega) (by omega) (by omega)
 simp only [zb6,if_true]
 have hb':IntKind.i64.bits=64:=rfl
 have:=Nat.or_lt_two_pow (n:=16) ha hb
 rw [hb',h,Int.toNat_natCast,Int.toNat_natCast]
 congr 2
 exact wrap_i64 (by omega) (by omega)
theorem zx6 (sb q mr n:Nat) (hn:n≤16) (l:List Tw) (hL:l.length≤9223372036854775807) :
 zy Try.prog f_zz41 [.gp sb 0,eL l] [SiA sb q mr n] (fun r post=>r=.d (.bool (decide (Rgt n l)))∧post=[SiA sb q mr n]):=by
 refine zf fol zz41_cp fun R G σ hs=>?_
 have hg:=Sep.get (b:=sb) (cs:=[eSt q,.int .i64 n,.mref mr]) hs
 have hall:=zep l
 refine goS trivial ?_
 refine goR trivial ?_
 refine W.loop (fun m st=>∃ (i:Nat) (b7:Blk),m+i=l.length∧(∀ x∈l.take i,okT n x)∧((l.take i).map Tw.key).Nodup ∧
  st=(E [(0,.d (.gp sb 0)),(1,.d (eL l)),(5,.d (.int .i64 (zkc ((l.take i).map Tw.key).reverse:Nat))),(8,.d (eL l)),(9,.d (.int .i64 (l.length:Nat))),(10,.d (.int .i64 (i:Nat)))],HB [(7,b7)],σ,G))
  ⟨_,_,zt (zdr [] [7] rfl).symm,0,_,rfl,by simp,by simp,rfl⟩ ?_
 rintro m st ⟨i,b7,hi,ho,hnd,rfl⟩
 by_cases hlt:i<l.length
 case neg =>
  have:i=l.length:=by omega
  subst this
  rw [List.take_length] at ho hnd
  have hx:((l.length:Int)<(l.length:Int))=False:=eq_false (by omega)
  by_cases h1:l.length<1
  · have e:decide (Rgt n l)=false:=decide_eq_false fun h=>by have:=h.2.2.1;omega
    rw [e]
    have g1:(1≤(l.length:Int))=False:=eq_false (by omega)
    (refine goX (nn hx g1) ?_;(repeat' (with_reducible apply Br.mk<;>intro _)))
    exact Fin.eq rfl ⟨rfl,_,⟨rfl,rfl⟩,hs⟩
  have g1:(1≤(l.length:Int))=True:=eq_true (by omega)
  by_cases h2:l.length≤16
  · have e:decide (Rgt n l)=true:=decide_eq_true ⟨ho,hnd,by omega,h2⟩
    rw [e]
    have g2:((l.length:Int)≤16)=True:=eq_true (by omega)
    (refine goX (nn hx (nn g1 g2)) ?_;(repeat' (with_reducible apply Br.mk<;>intro _)))
    exact Fin.eq rfl ⟨rfl,_,⟨rfl,rfl⟩,hs⟩
  · have e:decide (Rgt n l)=false:=decide_eq_false fun h=>h2 h.2.2.2
    rw [e]
    have g2:((l.length:Int)≤16)=False:=eq_false (by omega)
    (refine goX (nn hx (nn g1 g2)) ?_;(repeat' (with_reducible apply Br.mk<;>intro _)))
    exact Fin.eq rfl ⟨rfl,_,⟨rfl,rfl⟩,hs⟩
 have hlt':(i:Int)<(l.length:Int):=by omega
 have hk0:∀ k∈((l.take i).map Tw.key).reverse,0≤k:=fun k hk=>by
  obtain ⟨x,hx,rfl⟩:=List.mem_map.1 (List.mem_reverse.1 hk)
  exact (ho x hx).1
 have hk16:∀ k∈((l.take i).map Tw.key).reverse,k<16:=fun k hk=>by
  obtain ⟨x,hx,rfl⟩:=List.mem_map.1 (List.mem_reverse.1 hk)
  have:=(ho x hx).2.1
  omega
 have hB:=zx4 hk16
 have htk:l.take (i+1)=l.take i++[l[i]]:=by rw [List.take_add_one,List.getElem?_eq_getElem hlt];rfl
 have bad:(¬ okT n l[i]∨l[i].key∈(l.take i).map Tw.key)→decide (Rgt n l)=false:=fun h=>decide_eq_false fun hR=>by
  rcases h with h|h
  · exact h (hR.1 _ (List.getElem_mem hlt))
  · have h3:=hR.2.1
    rw [← List.take_append_drop (i+1) l,htk,List.map_append,List.map_append] at h3
    have h4:=(List.nodup_append.1 h3).1
    exact (List.nodup_append.1 h4).2.2 _ h _ (by simp) rfl
 have hbd:=zvr ((l.take i).map Tw.key).reverse hk0 l[i].key.toNat
 have hmem:(((l[i].key.toNat:Nat):Int)∈((l.take i).map Tw.key).reverse↔((l[i].key.toNat:Nat):Int)∈(l.take i).map Tw.key):=List.mem_reverse
 generalize hBe:zkc ((l.take i).map Tw.key).reverse=B at hB hbd ⊢
 generalize hxe:l[i]=x at bad hbd hmem ⊢
 by_cases c1:x.key<0
 · rw [bad (.inl fun h=>by have:=h.1;omega)]
   (refine goX (nn hlt' (nn hall (nn hxe c1))) ?_;(repeat' (with_reducible apply Br.mk<;>intro _)))
   exact Fin.eq rfl ⟨rfl,_,⟨rfl,rfl⟩,hs⟩
 have c1':(x.key<0)=False:=eq_false c1
 by_cases c2:(n:Int)≤x.key
 · rw [bad (.inl fun h=>by have:=h.2.1;omega)]
   (refine goX (nn hlt' (nn hall (nn hxe (nn c1' (nn hg c2))))) ?_;(repeat' (with_reducible apply Br.mk<;>intro _)))
   exact Fin.eq rfl ⟨rfl,_,⟨rfl,rfl⟩,hs⟩
 have c2':((n:Int)≤x.key)=False:=eq_false c2
 obtain ⟨kn,hkn⟩:∃ kn:Nat,x.key=kn:=Int.eq_ofNat_of_zero_le (by omega)
 have hkn':x.key.toNat=kn:=by omega
 rw [hkn'] at hbd hmem
 have hp2:2 ^ kn<65536:=Nat.pow_lt_pow_right (a:=2) (m:=kn) (n:=16) (by omega) (by omega)
 have hsh:zb6 .shr (.int .i64 (B:Int)) (.int .i64 x.key)=some (.int .i64 ((B / 2 ^ kn:Nat):Int)):=by
  have hb':IntKind.i64.bits=64:=rfl
  rw [zw1 _ _ _ _ (by omega) (by omega),hkn',hb',if_pos (by omega)]
  simp
 have hdl:B / 2 ^ kn≤B:=Nat.div_le_self _ _
 generalize hDe:B / 2 ^ kn=Dv at hsh hdl hbd
 have hand:zb6 .and (.int .i64 (Dv:Int)) (.int .i64 1)=some (.int .i64 (if (kn:Int)∈(l.take i).map Tw.key then 1 else 0)):=by
  rw [z0i (by omega) (by omega) (by omega) (by omega),Int.toNat_natCast]
  have:Dv &&& (1:Int).toNat=Dv % 2:=Nat.and_one_is_mod _
  rw [this,hbd]
  by_cases h:(kn:Int)∈(l.take i).map Tw.key
  · rw [if_pos (hmem.2 h),if_pos h];rfl
  · rw [if_neg (fun h'=>h (hmem.1 h')),if_neg h];rfl
 by_cases c3:(kn:Int)∈(l.take i).map Tw.key
 · rw [if_pos c3] at hand
   rw [bad (.inr (by rw [hkn];exact c3))]
   (refine goX (nn hlt' (nn hall (nn hxe (nn c1' (nn hg (nn c2' (nn hsh hand))))))) ?_;(repeat' (with_reducible apply Br.mk<;>intro _)))
   exact Fin.eq rfl ⟨rfl,_,⟨rfl,rfl⟩,hs⟩
 rw [if_neg c3] at hand
 by_cases c4:x.ver<0
 · rw [bad (.inl fun h=>by have:=h.2.2.1;omega)]
   (refine goX (nn hlt' (nn hall (nn hxe (nn c1' (nn hg (nn c2' (nn hsh (nn hand c4)))))))) ?_;(repeat' (with_reducible apply Br.mk<;>intro _)))
   exact Fin.eq rfl ⟨rfl,_,⟨rfl,rfl⟩,hs⟩
 have c4':(x.ver<0)=False:=eq_false c4
 by_cases c5:1099511627776<x.ver
 · rw [bad (.inl fun h=>by have:=h.2.2.2.1;omega)]
   (refine goX (nn hlt' (nn hall (nn hxe (nn c1' (nn hg (nn c2' (nn hsh (nn hand (nn c4' c5))))))))) ?_;(repeat' (with_reducible apply Br.mk<;>intro _)))
   exact Fin.eq rfl ⟨rfl,_,⟨rfl,rfl⟩,hs⟩
 have c5':(1099511627776<x.ver)=False:=eq_false c5
 by_cases c6:40<x.val.length
 · rw [bad (.inl fun h=>by have:=h.2.2.2.2.1;omega)]
   have c6':(40<(x.val.length:Int))=True:=eq_true (by omega)
   (refine goX (nn hlt' (nn hall (nn hxe (nn c1' (nn hg (nn c2' (nn hsh (nn hand (nn c4' (nn c5' c6')))))))))) ?_;(repeat' (with_reducible apply Br.mk<;>intro _)))
   exact Fin.eq rfl ⟨rfl,_,⟨rfl,rfl⟩,hs⟩
 have c6':(40<(x.val.length:Int))=False:=eq_false (by omega)
 by_cases c7:x.rd=true∧x.val≠[]
 · rw [bad (.inl fun h=>c7.2 (h.2.2.2.2.2 c7.1))]
   obtain ⟨c8,c9⟩:=c7
   (refine goX (nn hlt' (nn hall (nn hxe (nn c1' (nn hg (nn c2' (nn hsh (nn hand (nn c4' (nn c5' (nn c6' (nn c8 c9)))))))))))) ?_;(repeat' (with_reducible apply Br.mk<;>intro _)))
   exact Fin.eq rfl ⟨rfl,_,⟨rfl,rfl⟩,hs⟩
 have hok:okT n x:=⟨by omega,by omega,by omega,by omega,by omega,fun h=>Decidable.byContradiction fun h'=>c7 ⟨h,h'⟩⟩
 have hshl:zb6 .shl (.int .i64 1) (.int .i64 x.key)=some (.int .i64 ((2 ^ kn:Nat):Int)):=by
  have hb':IntKind.i64.bits=64:=rfl
  rw [zw2 _ _ _ _ (by omega),hkn',hb',if_pos (by omega),Int.one_mul]
  have:((2:Int) ^ kn)=((2 ^ kn:Nat):Int):=by simp
  generalize 2 ^ kn=Pw at hp2 this ⊢
  rw [this,wrap_i64 (by omega) (by omega)]
 have hor:=zx5 (a:=B) (b:=2 ^ kn) hB hp2
 have hnext:B ||| 2 ^ kn=zkc ((l.take (i+1)).map Tw.key).reverse:=by
  rw [htk,hxe,List.map_append,List.reverse_append]
  show _=zkc (((l.take i).map Tw.key).reverse) ||| 2 ^ x.key.toNat
  rw [hBe,hkn']
 rw [hnext] at hor
 generalize hPe:2 ^ kn=Pw at hshl hor
 have hnd':((l.take (i+1)).map Tw.key).Nodup:=by
  rw [htk,hxe,List.map_append,List.nodup_append]
  refine ⟨hnd,by simp,fun a ha b hb=>?_⟩
  have:b=(kn:Int):=by rw [← hkn];simpa using hb
  rw [this]
  rintro rfl
  exact c3 ha
 have ho':∀ y∈l.take (i+1),okT n y:=fun y hy=>by
  rw [htk,hxe,List.mem_append] at hy
  rcases hy with hy|hy
  · exact ho y hy
  · rw [List.mem_singleton.1 hy];exact hok
 cases hr:x.rd with
 | false =>
  (refine goX (nn hlt' (nn hall (nn hxe (nn c1' (nn hg (nn c2' (nn hsh (nn hand (nn c4' (nn c5' (nn c6' (nn hr (nn hshl hor))))))))))))) ?_;(repeat' (with_reducible apply Br.mk<;>intro _)))
  exact ⟨m - 1,_,by omega,zt rfl,i+1,_,by omega,ho',hnd',rfl⟩
 | true =>
  have hv:(x.val=[])=True:=eq_true (hok.2.2.2.2.2 hr)
  (refine goX (nn hlt' (nn hall (nn hxe (nn c1' (nn hg (nn c2' (nn hsh (nn hand (nn c4' (nn c5' (nn c6' (nn hr (nn hshl (nn hor hv)))))))))))))) ?_;(repeat' (with_reducible apply Br.mk<;>intro _)))
  exact ⟨m - 1,_,by omega,zt rfl,i+1,_,by omega,ho',hnd',rfl⟩
end Go.Proofs.Ytlejjdbmmdghmaa
