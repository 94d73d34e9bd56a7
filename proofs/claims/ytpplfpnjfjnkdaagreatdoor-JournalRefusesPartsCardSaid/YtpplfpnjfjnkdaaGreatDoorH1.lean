/-
 Wire: integers and byte strings written,by the program and by the reference.
 Conditions: of each contract as it says.
-/
import Derived.Test.YtpplfpnjfjnkdaaGreatDoorS01
import Derived.Test.YtpplfpnjfjnkdaaGreatDoorT23
import Derived.KernelRfl
set_option linter.unusedSimpArgs false
namespace Go.Proofs.YtpplfpnjfjnkdaaGreatDoor
open Go Go.E2 CW
set_option maxHeartbeats 4000000
theorem zo1 (b:UInt8):eB b=.int .u8 b.toNat:=rfl
abbrev eI (n:Int):D:=.int .i64 n
@[go_sem] theorem z1t (l:List Int):(l.map eI).all (ze 1)=true:=by simp [List.all_map,Function.comp_def,ze,D.cells,D.one]
theorem z1u {z:Nat} (h:¬ z<128):z / 128<z:=Nat.div_lt_self (by omega) (by decide)
theorem z8t {z:Nat} (h:z<256):[D.int .u8 ((z:Nat):Int)]=[UInt8.ofNat z].map eB:=by
 show _=[D.int .u8 _]
 rw [zjp h]
theorem z8u (n:Int) (hn:i64 n) (σ:List Hp) (G:Gh):zaz Tryz.prog f_zz113 ([.int .i64 n].map .d) σ G fun r σ' G'=>σ'=σ∧∃ x,r=.d x∧GV 1 G' x ((intB n).map eB)∧GTo .nilS x G G':=by
 refine zm fol zz113_cp ?_
 obtain ⟨x,y,w1,w2,w3⟩:=w_zig hn
 have hl:=zdn hn
 have hz:=zxu hn
 have hm:=z2
 refine goS trivial ?_
 refine goR (nn w1 (nn w2 w3)) ?_
 refine W.loop (fun m st=>∃ z p x G1,m=z∧z<18446744073709551616∧intB n=p++leb z∧GV 1 G1 x (p.map eB)∧GTo .nilS x G G1 ∧
  st=(E [(3,.d (.int .u64 ((z:Nat):Int))),(4,.d x)],HB [],σ,G1))
  ⟨_,_,zk9,zig n,[],.nilS,G,rfl,hz,rfl,.nil,GTo.refl _ _,rfl⟩ ?_
 rintro m st ⟨z,p,x,G1,rfl,hz,hp,hx,hto,rfl⟩
 have hpl:p.length≤10:=by rw [hp,yk2Q] at hl;omega
 by_cases h1:(127:Int)<((m:Nat):Int)
 case pos =>
  have h2:¬ m<128:=by omega
  have w4:=z4y m
  have w5:=z9p m
  rw [zxt h2] at hp
  rcases hx.shape with rfl|⟨b0,n0,c0,rfl⟩
  all_goals
   (refine goX (nn h1 w4) ?_;(repeat' (with_reducible apply Br.mk<;>intro _)))
   refine zcb hx (zba (es:=[eB (UInt8.ofNat (m % 128+128))]) rfl) rfl rfl rfl (by rw [yk3Q,z2];show (_+1) * 1≤_;omega) fun x' G2 hg hto2=>?_
   have hg:GV 1 G2 x' ((p++[UInt8.ofNat (m % 128+128)]).map eB):=by rw [yk6Q];exact hg
   rcases hg.shape with rfl|⟨b',n',cap',rfl⟩
   all_goals
    refine goS trivial ?_
    refine goR w5 ?_
    refine ⟨_,_,?_,zk9,m / 128,p++[UInt8.ofNat (m % 128+128)],_,G2,rfl,by omega,by rw [hp,yk5Q];rfl,hg,hto.trans hto2,rfl⟩
    exact z1u h2
 case neg =>
  have h2:m<128:=by omega
  rw [zsq h2] at hp
  rcases hx.shape with rfl|⟨b0,n0,c0,rfl⟩
  all_goals
   (refine goX h1 ?_;(repeat' (with_reducible apply Br.mk<;>intro _)))
   refine zcb hx (zba (es:=[.int .u8 ((m:Nat):Int)]) rfl) rfl rfl rfl (by rw [yk3Q,z2];show (_+1) * 1≤_;omega) fun x' G2 hg hto2=>?_
   have hg:GV 1 G2 x' ((intB n).map eB):=by rw [hp,yk6Q,← z8t (by omega)];exact hg
   rcases hg.shape with rfl|⟨b',n',cap',rfl⟩
   all_goals
    refine goS trivial ?_
    refine goR trivial ?_
    exact Fin.eq rfl ⟨rfl,_,rfl,hg,hto.trans hto2⟩
theorem zwq (n:Int) (hn:i64 n):zw Tryz.prog f_zz113 [.int .i64 n] (·=.d (.list ((intB n).map eB))) :=
 zw.of_deep ((z8u n hn [] noGh).mono fun r σ' G' ⟨h1,x,h2,h3,_⟩=>⟨h1,_,by rw [h2];exact .d _ _ h3.dr,rfl⟩)
theorem zhs {d:Option Nat} {by_:Nat} {z:List D} {x:D} {s:List UInt8} {ρ:Env} {L:Hp} {σ:List Hp} {G:Gh} {K:St→Prop} {hk:zp K}:z1l d 1 by_ z x (.str s) ρ L σ G hk=z1l d 1 by_ z x (.list (s.map eB)) ρ L σ G hk:=by
 have e:zns G 1 (.list (s.map eB))=zns G 1 (.str s):=by
  rw [zrg (zba (zhm s)),yk3Q]
  exact congrArg (fun c=>some (s.length,c)) (zha s)
 unfold z1l;rw [e]
theorem zkp {n:Nat} (h:n≤1000000):i64 (n:Int):=⟨by omega,by omega⟩
theorem z34 (s:Str) (hs:s.length≤1000000) (σ:List Hp) (G:Gh):zaz Tryz.prog f_zz110 ([.str s].map .d) σ G fun r σ' G'=>σ'=σ∧∃ x,r=.d x∧GV 1 G' x ((zd5 s).map eB)∧GTo .nilS x G G':=by
 refine zm fol zz110_cp ?_
 have hl:=zdn (zkp hs)
 refine goS trivial ?_
 refine goR trivial ?_
 apply wC_g (z8u _ (zkp hs) _ _)
 focus (simp -dsimp (disch:=first|omega|(simp only [go_sem];omega)) only [go_sem,seval,Nat.reduceEqDiff,Nat.reduceLeDiff]<;>fail)
 focus (simp -dsimp (disch:=first|omega|(simp only [go_sem];omega)) only [go_sem,seval,Nat.reduceEqDiff,Nat.reduceLeDiff]<;>rfl)
 rintro _ G1 ⟨x,rfl,hx,hto⟩
 rcases hx.shape with rfl|⟨b0,n0,c0,rfl⟩
 all_goals
  refine goS trivial ?_
  refine goR trivial ?_
  rw [zhs]
  refine zcb hx (zba (zhm s)) rfl (zhm s) rfl (by rw [yk3Q,yk3Q,z2];show _ * 1≤_;omega) fun x' G2 hg hto2=>?_
  have hg:GV 1 G2 x' ((zd5 s).map eB):=by rw [zd5,yk6Q];exact hg
  rcases hg.shape with rfl|⟨b',n',cap',rfl⟩
  all_goals
   refine goS trivial ?_
   refine goR trivial ?_
   exact Fin.eq rfl ⟨rfl,_,rfl,hg,hto.trans hto2⟩
theorem zz0 (s:Str) (hs:s.length≤1000000):zw Tryz.prog f_zz110 [.str s] (·=.d (.list ((zd5 s).map eB))) :=
 zw.of_deep ((z34 s hs [] noGh).mono fun r σ' G' ⟨h1,x,h2,h3,_⟩=>⟨h1,_,by rw [h2];exact .d _ _ h3.dr,rfl⟩)
theorem w_rem (z m:Nat) (hm:m≠0):za4 .rem (.int .u64 z) (.int .u64 m)=some (.int .u64 ((z % m:Nat):Int)):=by
 rw [zy9 _ _ _ (by omega)];rfl
theorem w_quo (z m:Nat) (hz:z<18446744073709551616) (hm:m≠0):za4 .quo (.int .u64 z) (.int .u64 m)=some (.int .u64 ((z / m:Nat):Int)):=by
 have h1:z / m≤z:=Nat.div_le_self _ _
 have e:(z:Int).tdiv (m:Int)=((z / m:Nat):Int):=rfl
 have h2:((z / m:Nat):Int)≤(z:Int):=by exact_mod_cast h1
 rw [zy8 _ _ _ (by omega),e]
 generalize z / m=q at h2 ⊢
 rw [zf5 (by omega) (by omega)]
theorem z1v (n:Int) (hn:i64 n) (σ:List Hp) (G:Gh):zaz Tryz.prog f_zz74 ([.int .i64 n].map .d) σ G fun r σ' G'=>σ'=σ∧∃ x,r=.d x∧GV 1 G' x ((intB n).map eB)∧GTo .nilS x G G':=by
 refine zm fol zz74_cp ?_
 have hl:=zdn hn
 have hz:=zxu hn
 have hm:=z2
 obtain ⟨hn1,hn2⟩:=hn
 have hz1:(n<0→(-1 - n) * 2+1=((zig n:Nat):Int))∧(¬ n<0→n * 2=((zig n:Nat):Int)):=by
  unfold zig
  exact ⟨fun h=>by rw [if_pos h];omega,fun h=>by rw [if_neg h];omega⟩
 refine goS trivial ?_
 (refine goX trivial ?_;(repeat' (with_reducible apply Br.mk<;>intro _)))
 all_goals
  first|have hz2:=hz1.1 ‹_›|have hz2:=hz1.2 ‹_›
  refine W.loop (fun m st=>∃ z p x G1,m=z∧z<18446744073709551616∧intB n=p++leb z∧GV 1 G1 x (p.map eB)∧GTo .nilS x G G1 ∧
   st=(E [(3,.d (.int .u64 ((z:Nat):Int))),(4,.d x)],HB [],σ,G1))
   ⟨_,_,z6x hz2,zig n,[],.nilS,G,rfl,hz,rfl,.nil,GTo.refl _ _,rfl⟩ ?_
  rintro m st ⟨z,p,x,G1,rfl,hz,hp,hx,hto,rfl⟩
  have hpl:p.length≤10:=by rw [hp,yk2Q] at hl;omega
  by_cases h1:(128:Int)≤((m:Nat):Int)
  case pos =>
   have h2:¬ m<128:=by omega
   have h3:m % 128<128:=Nat.mod_lt _ (by decide)
   have w4:za4 .rem (.int .u64 ((m:Nat):Int)) (.int .u64 128)=some (.int .u64 ((m % 128:Nat):Int)):=w_rem m 128 (by decide)
   have w5:za4 .quo (.int .u64 ((m:Nat):Int)) (.int .u64 128)=some (.int .u64 ((m / 128:Nat):Int)):=w_quo m 128 hz (by decide)
   have w6:((m % 128:Nat):Int)+128=(((UInt8.ofNat (m % 128+128)).toNat:Nat):Int):=by rw [zjp (by omega)];rfl
   rw [zxt h2] at hp
   rcases hx.shape with rfl|⟨b0,n0,c0,rfl⟩
   all_goals
    (refine goX (nn h1 (nn w4 w6)) ?_;(repeat' (with_reducible apply Br.mk<;>intro _)))
    refine zcb hx (zba (es:=[eB (UInt8.ofNat (m % 128+128))]) rfl) rfl rfl rfl (by rw [yk3Q,z2];show (_+1) * 1≤_;omega) fun x' G2 hg hto2=>?_
    have hg:GV 1 G2 x' ((p++[UInt8.ofNat (m % 128+128)]).map eB):=by rw [yk6Q];exact hg
    rcases hg.shape with rfl|⟨b',n',cap',rfl⟩
    all_goals
     refine goS trivial ?_
     refine goR w5 ?_
     refine ⟨_,_,?_,zk9,m / 128,p++[UInt8.ofNat (m % 128+128)],_,G2,rfl,by omega,by rw [hp,yk5Q];rfl,hg,hto.trans hto2,rfl⟩
     exact z1u h2
  case neg =>
   have h2:m<128:=by omega
   rw [zsq h2] at hp
   rcases hx.shape with rfl|⟨b0,n0,c0,rfl⟩
   all_goals
    (refine goX h1 ?_;(repeat' (with_reducible apply Br.mk<;>intro _)))
    refine zcb hx (zba (es:=[.int .u8 ((m:Nat):Int)]) rfl) rfl rfl rfl (by rw [yk3Q,z2];show (_+1) * 1≤_;omega) fun x' G2 hg hto2=>?_
    have hg:GV 1 G2 x' ((intB n).map eB):=by rw [hp,yk6Q,← z8t (by omega)];exact hg
    rcases hg.shape with rfl|⟨b',n',cap',rfl⟩
    all_goals
     refine goS trivial ?_
     refine goR trivial ?_
     exact Fin.eq rfl ⟨rfl,_,rfl,hg,hto.trans hto2⟩
theorem z35 (n:Int) (hn:i64 n):zw Tryz.prog f_zz74 [.int .i64 n] (·=.d (.list ((intB n).map eB))) :=
 zw.of_deep ((z1v n hn [] noGh).mono fun r σ' G' ⟨h1,x,h2,h3,_⟩=>⟨h1,_,by rw [h2];exact .d _ _ h3.dr,rfl⟩)
theorem zz1 (s:Str) (hs:s.length≤1000000) (σ:List Hp) (G:Gh):zaz Tryz.prog f_zz55 ([.str s].map .d) σ G fun r σ' G'=>σ'=σ∧∃ x,r=.d x∧GV 1 G' x ((zd5 s).map eB)∧GTo .nilS x G G':=by
 refine zm fol zz55_cp ?_
 have hl:=zdn (zkp hs)
 refine goS trivial ?_
 refine goR trivial ?_
 apply wC_g (z1v _ (zkp hs) _ _)
 focus (simp -dsimp (disch:=first|omega|(simp only [go_sem];omega)) only [go_sem,seval,Nat.reduceEqDiff,Nat.reduceLeDiff]<;>fail)
 focus (simp -dsimp (disch:=first|omega|(simp only [go_sem];omega)) only [go_sem,seval,Nat.reduceEqDiff,Nat.reduceLeDiff]<;>rfl)
 rintro _ G1 ⟨x,rfl,hx,hto⟩
 rcases hx.shape with rfl|⟨b0,n0,c0,rfl⟩
 all_goals
  refine goS trivial ?_
  refine goR trivial ?_
  rw [zhs]
  refine zcb hx (zba (zhm s)) rfl (zhm s) rfl (by rw [yk3Q,yk3Q,z2];show _ * 1≤_;omega) fun x' G2 hg hto2=>?_
  have hg:GV 1 G2 x' ((zd5 s).map eB):=by rw [zd5,yk6Q];exact hg
  rcases hg.shape with rfl|⟨b',n',cap',rfl⟩
  all_goals
   refine goS trivial ?_
   refine goR trivial ?_
   exact Fin.eq rfl ⟨rfl,_,rfl,hg,hto.trans hto2⟩
theorem zwr (s:Str) (hs:s.length≤1000000):zw Tryz.prog f_zz55 [.str s] (·=.d (.list ((zd5 s).map eB))) :=
 zw.of_deep ((zz1 s hs [] noGh).mono fun r σ' G' ⟨h1,x,h2,h3,_⟩=>⟨h1,_,by rw [h2];exact .d _ _ h3.dr,rfl⟩)
end Go.Proofs.YtpplfpnjfjnkdaaGreatDoor
namespace Go.E2
open CH CW
def eW (w:W32):D:=.int .u32 (w.toNat:Int)
@[go_sem ↓] theorem eW_one (w:W32):(eW w).one=true:=rfl
@[go_sem ↓] theorem eW_size (w:W32):ze 1 (eW w)=true:=rfl
@[go_sem ↓] theorem eW_cells (w:W32):(eW w).cells=[eW w]:=rfl
theorem zo2 {n:Nat} (h:n<2 ^ 32):IntKind.u32.wrap (n:Int)=(n:Int):=by
 have h2:(n:Int) % 4294967296=n:=Int.emod_eq_of_lt (by omega) (by omega)
 simp [IntKind.wrap,IntKind.bits,IntKind.signed,h2]
theorem zim (w:W32):BitVec.ofInt 32 (w.toNat:Int)=w:=by
 apply BitVec.eq_of_toNat_eq
 rw [zce 32 w.toNat w.isLt]
theorem bW (n:W32):IntKind.u32.wrap ((n.toNat:Nat):Int)=(n.toNat:Int):=zo2 n.isLt
@[go_sem] theorem zo3 (a b:W32):za4 .xor (eW a) (eW b)=some (eW (a ^^^ b)):=by
  show some (D.int .u32 (IntKind.u32.wrap ((BitVec.ofInt 32 a.toNat ^^^ BitVec.ofInt 32 b.toNat).toNat:Int)))=_
  rw [zim,zim,bW];rfl
@[go_sem] theorem z8v (a b:W32):za4 .and (eW a) (eW b)=some (eW (a &&& b)):=by
  show some (D.int .u32 (IntKind.u32.wrap ((BitVec.ofInt 32 a.toNat &&& BitVec.ofInt 32 b.toNat).toNat:Int)))=_
  rw [zim,zim,bW];rfl
@[go_sem] theorem binD_orW (a b:W32):za4 .or (eW a) (eW b)=some (eW (a ||| b)):=by
  show some (D.int .u32 (IntKind.u32.wrap ((BitVec.ofInt 32 a.toNat ||| BitVec.ofInt 32 b.toNat).toNat:Int)))=_
  rw [zim,zim,bW];rfl
theorem zsf (n:Nat):IntKind.u32.wrap (n:Int)=((n % 2 ^ 32:Nat):Int):=by
 simp [IntKind.wrap,IntKind.bits,IntKind.signed]
@[go_sem] theorem z8w (a b:W32):za4 .add (eW a) (eW b)=some (eW (a+b)):=by
  show some (D.int .u32 (IntKind.u32.wrap ((a.toNat:Int)+(b.toNat:Int))))=_
  rw [← Int.natCast_add,zsf]
  rw [eW,BitVec.toNat_add]
@[go_sem] theorem z8x (a:W32):za4 .xor (.int .u32 4294967295) (eW a)=some (eW (~~~a)):=by
  have:=zo3 (BitVec.allOnes 32) a
  rw [BitVec.allOnes_xor] at this
  exact this
@[go_sem] theorem z8y (a:W32):za4 .xor (eW a) (.int .u32 4294967295)=some (eW (~~~a)):=by
  have:=zo3 a (BitVec.allOnes 32)
  rw [BitVec.xor_allOnes] at this
  exact this
theorem zfo (a:W32) (k:IntKind) {n:Nat} (hn:n≤32):za4 .shl (eW a) (.int k (n:Int))=some (eW (a <<< n)):=by
 show (if (n:Int)<0 then none else some (D.int .u32 (IntKind.u32.wrap ((a.toNat:Int) * 2 ^ (min (n:Int).toNat 32)))))=_
 rw [if_neg (by omega),yleQ,Nat.min_eq_left hn]
 rw [show (a.toNat:Int) * 2 ^ n=((a.toNat * 2 ^ n:Nat):Int) from by push_cast;rfl,zsf,eW,BitVec.toNat_shiftLeft,Nat.shiftLeft_eq]
theorem zht (a:W32) (k:IntKind) {n:Nat} (hn:n≤32):za4 .shr (eW a) (.int k (n:Int))=some (eW (a >>> n)):=by
 show (if (n:Int)<0 then none else some (D.int .u32 (Int.fdiv (a.toNat:Int) (2 ^ (min (n:Int).toNat 32)))))=_
 rw [if_neg (by omega),yleQ,Nat.min_eq_left hn,Int.fdiv_eq_ediv_of_nonneg _ (Int.pow_nonneg (by omega)),eW,BitVec.toNat_ushiftRight,Nat.shiftRight_eq_div_pow]
 norm_cast
@[go_sem] theorem shlW8 (a:W32):za4 .shl (eW a) (.int .u64 8)=some (eW (a <<< 8)):=zfo a .u64 (n:=8) (by decide)
@[go_sem] theorem shlW16 (a:W32):za4 .shl (eW a) (.int .u64 16)=some (eW (a <<< 16)):=zfo a .u64 (n:=16) (by decide)
@[go_sem] theorem shlW24 (a:W32):za4 .shl (eW a) (.int .u64 24)=some (eW (a <<< 24)):=zfo a .u64 (n:=24) (by decide)
@[go_sem] theorem shrW3 (a:W32):za4 .shr (eW a) (.int .u64 3)=some (eW (a >>> 3)):=zht a .u64 (n:=3) (by decide)
@[go_sem] theorem shrW10 (a:W32):za4 .shr (eW a) (.int .u64 10)=some (eW (a >>> 10)):=zht a .u64 (n:=10) (by decide)
theorem z36 (b:UInt8):(wOf b).toNat=b.toNat:=by
 have:=b.toNat_lt
 unfold wOf;rw [BitVec.toNat_ofNat];omega
@[go_sem high] theorem vConv_W (b:UInt8):zqc .u32 (.d (.int .u8 (b.toNat:Int)))=some (.d (eW (wOf b))):=by
  show some (AV.d (.int .u32 (IntKind.u32.wrap (b.toNat:Int))))=_
  rw [zo2 (by have:=b.toNat_lt;omega),eW,z36]
end Go.E2
namespace Go.Proofs.YtpplfpnjfjnkdaaGreatDoor
open Go Go.E2 CW CH
set_option maxHeartbeats 4000000
theorem z37 {k:Nat} (h1:1≤k) (h2:k≤31):za4 .and (.int .u64 (18446744073709551616 - (k:Int))) (.int .u64 31)=some (.int .u64 (32 - (k:Int))):=by
 have:k=1∨k=2∨k=3∨k=4∨k=5∨k=6∨k=7∨k=8∨k=9∨k=10∨k=11∨k=12∨k=13∨k=14∨k=15∨k=16∨k=17∨k=18∨k=19∨k=20∨k=21∨k=22∨k=23∨k=24∨k=25∨k=26∨k=27∨k=28∨k=29∨k=30∨k=31:=by omega
 rcases this with rfl|rfl|rfl|rfl|rfl|rfl|rfl|rfl|rfl|rfl|rfl|rfl|rfl|rfl|rfl|rfl|rfl|rfl|rfl|rfl|rfl|rfl|rfl|rfl|rfl|rfl|rfl|rfl|rfl|rfl|rfl<;>rfl
theorem zkq (x:W32) (k:Nat) (h1:1≤k) (h2:k≤31):zw Tryz.prog f_zz26 [eW x,.int .i64 (-(k:Int))] (·=.d (eW (rr x k))):=by
 refine zh fol zz26_cp ?_
 have e1:IntKind.u64.wrap (-(k:Int))=18446744073709551616 - (k:Int):=by
  have:(-(k:Int)) % 18446744073709551616=18446744073709551616 - (k:Int):=by omega
  simp [IntKind.wrap,IntKind.bits,IntKind.signed,this]
 have e2:=z37 h1 h2
 have e3:za4 .shl (eW x) (.int .u64 (32 - (k:Int)))=some (eW (x <<< (32 - k))):=by
  have:=zfo x .u64 (n:=32 - k) (by omega)
  rwa [show ((32 - k:Nat):Int)=32 - (k:Int) from by omega] at this
 have e4:=zht x .u64 (n:=k) (by omega)
 have e5:(32:Int) - (32 - (k:Int))=(k:Int):=by omega
 refine goS trivial ?_
 (refine goX (nn e1 (nn e2 (nn e3 (nn e4 e5)))) ?_;(repeat' (with_reducible apply Br.mk<;>intro _)))
 exact Fin.p rfl (by rw [z4w])
theorem zek (x:W32) (k:Nat) (h1:1≤k) (h2:k≤31):zw Tryz.prog f_zz66 [eW x,.int .i64 (k:Int)] (·=.d (eW (rr x k))):=by
 refine zh fol zz66_cp ?_
 have e3:za4 .shl (eW x) (.int .i64 (32 - (k:Int)))=some (eW (x <<< (32 - k))):=by
  have:=zfo x .i64 (n:=32 - k) (by omega)
  rwa [show ((32 - k:Nat):Int)=32 - (k:Int) from by omega] at this
 have e4:=zht x .i64 (n:=k) (by omega)
 refine goS trivial ?_
 (refine goX (nn e3 e4) ?_;(repeat' (with_reducible apply Br.mk<;>intro _)))
 exact Fin.p rfl rfl
end Go.Proofs.YtpplfpnjfjnkdaaGreatDoor
namespace Go.Proofs.YtpplfpnjfjnkdaaGreatDoor
open Go Go.E2 CW CH
set_option maxHeartbeats 4000000
def zag (w:List W32):List D:=w.map eW++List.replicate (64 - w.length) (eW 0)
theorem zes {w:List W32} (h:w.length≤64):(zag w).length=64:=by
 rw [zag,yk2Q,yk3Q,ylgQ];omega
theorem ztw {w:List W32} {i:Nat} (h:i<w.length):(zag w)[i]?=some (eW (w.getD i 0)):=by
 rw [zag,ylkQ (by rw [yk3Q];exact h),ylhQ,yliQ h,List.getD_eq_getElem?_getD,yliQ h];rfl
theorem zco {w:List W32} {i:Nat} (h:i<w.length):zae false 1 (some (zag w)) i=some (.d (eW (w.getD i 0))):=by
 have h1:=ztw h
 have h2:(List.drop i (zag w)).head?=some (eW (w.getD i 0)):=by rw [List.head?_drop];exact h1
 simp only [zae,zbv,h2];rfl
theorem zet {w:List W32} (h:w.length<64) (x:W32):(zag w).take w.length++[eW x]++(zag w).drop (w.length+1)=zag (w++[x]):=by
 have e1:(zag w).take w.length=w.map eW:=by rw [zag];exact ylnQ (by rw [yk3Q])
 have e2:(zag w).drop (w.length+1)=List.replicate (64 - (w.length+1)) (eW 0):=by
  rw [zag,List.drop_append,yk3Q,yk7Q (by rw [yk3Q];omega),List.nil_append,List.drop_replicate]
  congr 1;omega
 rw [e1,e2,zag,yk6Q,yk2Q];rfl
theorem zhu {w:List W32} (h:w.length=64):zag w=w.map eW:=by rw [zag,h];simp
theorem zqr (b:Str) {t:Nat} (h:t<16):sch b (t+1)=sch b t++[w4 ((b.drop (4 * t)).take 4)]:=by rw [sch,if_pos h]
theorem zqs (b:Str) {t:Nat} (h:16≤t):sch b (t+1)=sch b t++[zrb (sch b t)]:=by rw [sch,if_neg (by omega)]
theorem four {b:Str} {t:Nat} (h:4 * t+3<b.length):(b.drop (4 * t)).take 4=[b[4 * t],b[4 * t+1],b[4 * t+2],b[4 * t+3]]:=by
 rw [List.drop_eq_getElem_cons (by omega),List.drop_eq_getElem_cons (by omega),List.drop_eq_getElem_cons (by omega),List.drop_eq_getElem_cons (by omega)]
 rfl
theorem w4_or (a b c d:UInt8):w4 [a,b,c,d]=wOf a <<< 24 ||| wOf b <<< 16 ||| wOf c <<< 8 ||| wOf d:=by
 simp only [w4,List.foldl_cons,List.foldl_nil,BitVec.shiftLeft_or_distrib,← BitVec.shiftLeft_add]
 simp
structure SchOk (b:Str) (s:Nat→List W32):Prop where
 z:s 0=[]
 len:∀ t,(s t).length=t
 lo:∀ t,t<16→s (t+1)=s t++[w4 ((b.drop (4 * t)).take 4)]
 hi:∀ t,16≤t→s (t+1)=s t++[zrb (s t)]
theorem z8z (b:Str):SchOk b (sch b):=⟨rfl,znh b,fun _ h=>zqr b h,fun _ h=>zqs b h⟩
theorem zws {w:List W32} (h:w.length=64):(w.map eW).length=64∧List.take 64 (w.map eW)=w.map eW∧(w.map eW).all D.one=true:=by
 have h1:(w.map eW).length=64:=by rw [yk3Q,h]
 exact ⟨h1,yk1Q (by omega),by simp [List.all_map,Function.comp_def,D.one,eW]⟩
theorem zz2 (b:Str) (hb:b.length=64):zw Tryz.prog f_zz58 [.list (b.map eB)] (·=.d (.agg ((sch b 64).map eW))):=by
 refine zh fol zz58_cp ?_
 have hS:=z8z b
 generalize sch b=s at hS ⊢
 have hn0:(zag []).length=64:=rfl
 have hd0:List.drop 64 (zag [])=[]:=rfl
 have hz0:zr 64 (D.int IntKind.u32 0)=zag []:=rfl
 generalize zag []=c0 at hn0 hd0 hz0
 have hz:c0=zag (s 0):=by rw [← hz0,hS.z];rfl
 refine goS hz0 ?_
 refine goR hz0 ?_
 refine W.loop (fun m st=>∃ t,t≤16∧m=16 - t ∧
  st=(E [(4,.d (.int .i64 (t:Int))),(3,.ptr 0 3 1 0),(2,.ptr 0 2 1 0),(0,.d (.list (b.map eB)))],HB [(2,⟨1,some c0⟩),(3,⟨1,some (zag (s t))⟩)],[],noGh))
  ⟨_,_,z7 (by rw [hz]),0,by omega,rfl,rfl⟩ ?_
 rintro m st ⟨t,ht,rfl,rfl⟩
 have hl:=hS.len t
 by_cases h1:(t:Int)<16
 case pos =>
  have hl2:t * 1+1≤(zag (s t)).length:=by rw [zes (by omega)];omega
  have hs:=zet (w:=s t) (by omega) (w4 ((b.drop (4 * t)).take 4))
  have e0:(4 * (t:Int)).toNat=4 * t:=by omega
  have e1:(4 * (t:Int)+1).toNat=4 * t+1:=by omega
  have e2:(4 * (t:Int)+2).toNat=4 * t+2:=by omega
  have e3:(4 * (t:Int)+3).toNat=4 * t+3:=by omega
  rw [hl,← hS.lo t (by omega),four (by omega),w4_or] at hs
  (refine goX (nn h1 (nn zo1 hl2)) ?_;(repeat' (with_reducible apply Br.mk<;>intro _)))
  simp only [ylsQ,e0,e1,e2,e3,hs]
  refine ⟨_,_,?_,z7 rfl,t+1,by omega,rfl,rfl⟩
  omega
 obtain rfl:t=16:=by omega
 (refine goX h1 ?_;(repeat' (with_reducible apply Br.mk<;>intro _)))
 refine W.loop (fun m st=>∃ t,16≤t∧t≤64∧m=64 - t ∧
  st=(E [(5,.d (.int .i64 (t:Int))),(3,.ptr 0 3 1 0),(2,.ptr 0 2 1 0),(0,.d (.list (b.map eB)))],HB [(2,⟨1,some c0⟩),(3,⟨1,some (zag (s t))⟩)],[],noGh))
  ⟨_,_,z7 rfl,16,by omega,by omega,rfl,rfl⟩ ?_
 clear hl ht h1
 rintro m st ⟨t,ht0,ht,rfl,rfl⟩
 have hl:=hS.len t
 by_cases h1:(t:Int)<64
 case pos =>
  have hl2:t * 1+1≤(zag (s t)).length:=by rw [zes (by omega)];omega
  have hs:=zet (w:=s t) (by omega) (zrb (s t))
  rw [hl,← hS.hi t (by omega),zrb,hl] at hs
  have r7:=fun x=>zek x 7 (by omega) (by omega)
  have r18:=fun x=>zek x 18 (by omega) (by omega)
  have r17:=fun x=>zek x 17 (by omega) (by omega)
  have r19:=fun x=>zek x 19 (by omega) (by omega)
  have f15:((t:Int) - 15).toNat * 1=t - 15:=by omega
  have f16:((t:Int) - 16).toNat * 1=t - 16:=by omega
  have f7:((t:Int) - 7).toNat * 1=t - 7:=by omega
  have f2:((t:Int) - 2).toNat * 1=t - 2:=by omega
  have g15:=zco (w:=s t) (i:=t - 15) (by omega)
  have g16:=zco (w:=s t) (i:=t - 16) (by omega)
  have g7:=zco (w:=s t) (i:=t - 7) (by omega)
  have g2:=zco (w:=s t) (i:=t - 2) (by omega)
  generalize (s t).getD (t - 15) 0=x15 at *
  generalize (s t).getD (t - 16) 0=x16 at *
  generalize (s t).getD (t - 7) 0=x7 at *
  generalize (s t).getD (t - 2) 0=x2 at *
  simp only [s0,s1] at hs
  (refine zuj (nn h1 (nn hl2 (nn f15 (nn f16 (nn f7 (nn f2 (nn g15 (nn g16 (nn g7 g2))))))))) (r7 _) (r18 _) (r17 _) (r19 _) ?_;(repeat' (with_reducible apply Br.mk<;>intro _)))
  simp only [ylsQ,hs]
  refine ⟨_,_,?_,z7 rfl,t+1,by omega,by omega,rfl,rfl⟩
  omega
 obtain rfl:t=64:=by omega
 obtain ⟨hn,htk,hall⟩:=zws hl
 rw [zhu hl]
 generalize (s 64).map eW=cs at hn htk hall ⊢
 (refine goX (nn h1 (nn hn (nn hn0 (nn hall (nn htk hd0))))) ?_;(repeat' (with_reducible apply Br.mk<;>intro _)))
 exact Fin.eq (r:=.d (.agg cs)) (goE (nn hn (nn htk hall))) ⟨rfl,rfl,rfl⟩
theorem ztx {w:List W32} (h:w.length<64) (x y:W32):(zag (w++[x])).take w.length++[eW y]++(zag (w++[x])).drop (w.length+1)=zag (w++[y]):=by
 have key:∀ (A B:List D) (v u:D),(A++[v]++B).take A.length++[u]++(A++[v]++B).drop (A.length+1)=A++[u]++B:=fun A B v u=>by simp
 have hA:((zag w).take w.length).length=w.length:=by rw [yk4Q,zes (by omega)];omega
 have:=key ((zag w).take w.length) ((zag w).drop (w.length+1)) (eW x) (eW y)
 rw [hA,zet h x,zet h y] at this
 exact this
theorem zqt {w:List W32} (h:w.length<64):zag w=zag (w++[0]):=by
 rw [zag,zag,yk6Q,yk2Q,yk5Q]
 congr 1
 rw [show 64 - w.length=(64 - (w.length+1))+1 from by omega,List.replicate_succ];rfl
theorem z38 (l:Str) (x:UInt8):w4 (l++[x])=w4 l <<< 8 ||| wOf x:=by rw [w4,List.foldl_append];rfl
theorem zqu (b:Str) (hb:b.length=64):zw Tryz.prog f_zz98 [.list (b.map eB)] (·=.d (.agg ((sch b 64).map eW))):=by
 refine zh fol zz98_cp ?_
 have hS:=z8z b
 generalize sch b=s at hS ⊢
 have hn0:(zag []).length=64:=rfl
 have hd0:List.drop 64 (zag [])=[]:=rfl
 have hz0:zr 64 (D.int IntKind.u32 0)=zag []:=rfl
 generalize zag []=c0 at hn0 hd0 hz0
 have hz:c0=zag (s 0):=by rw [← hz0,hS.z];rfl
 refine goS hz0 ?_
 refine goR hz0 ?_
 refine W.loop (fun m st=>∃ t,t≤64∧m=64 - t ∧
  st=(E [(11,.d (.int .i64 (t:Int))),(3,.ptr 0 3 1 0),(2,.ptr 0 2 1 0),(0,.d (.list (b.map eB)))],HB [(2,⟨1,some c0⟩),(3,⟨1,some (zag (s t))⟩)],[],noGh))
  ⟨_,_,z7 (by rw [hz]),0,by omega,rfl,rfl⟩ ?_
 rintro m st ⟨t,ht,rfl,rfl⟩
 have hl:=hS.len t
 by_cases h1:(t:Int)<64
 case neg =>
  obtain rfl:t=64:=by omega
  obtain ⟨hn,htk,hall⟩:=zws hl
  rw [zhu hl]
  generalize (s 64).map eW=cs at hn htk hall ⊢
  (refine goX (nn h1 (nn hn (nn hn0 (nn hall (nn htk hd0))))) ?_;(repeat' (with_reducible apply Br.mk<;>intro _)))
  exact Fin.eq (r:=.d (.agg cs)) (goE (nn hn (nn htk hall))) ⟨rfl,rfl,rfl⟩
 by_cases h2:(t:Int)<16
 case pos =>
  obtain ⟨q,hq⟩:∃ q,q=(b.drop (4 * t)).take 4:=⟨_,rfl⟩
  have hql:q.length=4:=by rw [hq,yk4Q,ylfQ];omega
  have hv:z52 1 (some (.list (b.map eB))) (some (4 * (t:Int))) (some (4 * (t:Int)+4))=some (.d (.list (q.map eB))):=by
   rw [zod 1 _ _ _ (by omega) (by omega) (by rw [yk3Q];omega),if_pos (zhm b)]
   have e1:(4 * (t:Int)+4).toNat=4 * t+4:=by omega
   have e2:(4 * (t:Int)).toNat=4 * t:=by omega
   rw [e1,e2,hq,List.map_take,List.map_drop,List.take_drop]
  have hs:=hS.lo t (by omega)
  rw [← hq] at hs
  obtain ⟨f,hf0,hf4,hfs⟩:∃ f:Nat→W32,f 0=0∧f 4=w4 q∧∀ j (hj:j<q.length),f (j+1)=f j <<< 8 ||| wOf q[j] :=
   ⟨fun j=>w4 (q.take j),rfl,by show w4 (q.take 4)=_;rw [yk1Q (by omega)],fun j hj=>by show w4 (q.take (j+1))=_;rw [yldQ hj,z38]⟩
  rw [← hf4] at hs
  rw [zqt (w:=s t) (by omega),← hf0]
  (refine goX (nn h1 (nn h2 hv)) ?_;(repeat' (with_reducible apply Br.mk<;>intro _)))
  refine W.loop (fun m st=>∃ j,j≤4∧m=4 - j ∧
   st=(E [(24,.d (.int .i64 (j:Int))),(23,.d (.int .i64 4)),(22,.d (.list (q.map eB))),(4,.d (.int .i64 (t:Int))),(11,.d (.int .i64 (t:Int))),(3,.ptr 0 3 1 0),(2,.ptr 0 2 1 0),(0,.d (.list (b.map eB)))],
    HB [(2,⟨1,some c0⟩),(3,⟨1,some (zag (s t++[f j]))⟩)],[],noGh))
   ⟨_,_,zvn hql rfl,0,by omega,rfl,rfl⟩ ?_
  rintro m st ⟨j,hj,rfl,rfl⟩
  by_cases h3:(j:Int)<4
  case neg =>
   obtain rfl:j=4:=by omega
   rw [← hs]
   (refine goX h3 ?_;(repeat' (with_reducible apply Br.mk<;>intro _)))
   refine ⟨_,_,?_,z7 rfl,t+1,by omega,rfl,rfl⟩
   omega
  have hjl:j<q.length:=by omega
  have hu:=ztx (w:=s t) (by omega) (f j) (f (j+1))
  have hg:=zco (w:=s t++[f j]) (i:=t) (by rw [yk2Q];simp;omega)
  have hgd:(s t++[f j]).getD t 0=f j:=by
   rw [List.getD_eq_getElem?_getD,yllQ (by omega),hl,Nat.sub_self];rfl
  rw [hgd] at hg
  have hg:zae false 1 (some (zag (s t++[f j]))) (t * 1)=some (.d (eW (f j))):=by rw [ylsQ];exact hg
  rw [hl,hfs j hjl] at hu
  have hl2:t * 1+1≤(zag (s t++[f j])).length:=by rw [zes (by rw [yk2Q];simp;omega)];omega
  (refine goX (nn h3 (nn zo1 (nn hg hl2))) ?_;(repeat' (with_reducible apply Br.mk<;>intro _)))
  simp only [ylsQ,yleQ,hu]
  refine ⟨_,_,?_,z7 (by rw [hfs j hjl]),j+1,by omega,rfl,rfl⟩
  omega
 have hl2:t * 1+1≤(zag (s t)).length:=by rw [zes (by omega)];omega
 have hs:=zet (w:=s t) (by omega) (zrb (s t))
 rw [hl,← hS.hi t (by omega),zrb,hl] at hs
 have r7:=fun x=>zkq x 7 (by omega) (by omega)
 have r18:=fun x=>zkq x 18 (by omega) (by omega)
 have r17:=fun x=>zkq x 17 (by omega) (by omega)
 have r19:=fun x=>zkq x 19 (by omega) (by omega)
 have f15:((t:Int) - 15).toNat * 1=t - 15:=by omega
 have f16:((t:Int) - 16).toNat * 1=t - 16:=by omega
 have f7:((t:Int) - 7).toNat * 1=t - 7:=by omega
 have f2:((t:Int) - 2).toNat * 1=t - 2:=by omega
 have g15:=zco (w:=s t) (i:=t - 15) (by omega)
 have g16:=zco (w:=s t) (i:=t - 16) (by omega)
 have g7:=zco (w:=s t) (i:=t - 7) (by omega)
 have g2:=zco (w:=s t) (i:=t - 2) (by omega)
 generalize (s t).getD (t - 15) 0=x15 at *
 generalize (s t).getD (t - 16) 0=x16 at *
 generalize (s t).getD (t - 7) 0=x7 at *
 generalize (s t).getD (t - 2) 0=x2 at *
 simp only [s0,s1] at hs
 (refine zuj (nn h1 (nn h2 (nn hl2 (nn f15 (nn f16 (nn f7 (nn f2 (nn g15 (nn g16 (nn g7 g2)))))))))) (r7 _) (r18 _) (r17 _) (r19 _) ?_;(repeat' (with_reducible apply Br.mk<;>intro _)))
 simp only [ylsQ,hs]
 refine ⟨_,_,?_,z7 rfl,t+1,by omega,rfl,rfl⟩
 omega
end Go.Proofs.YtpplfpnjfjnkdaaGreatDoor
namespace Go.Proofs.YtpplfpnjfjnkdaaGreatDoor
open Go Go.E2 CW CH
set_option maxHeartbeats 4000000
theorem z1w:k256.map (D.int .u32)=kK.map eW:=by kernel_rfl
@[go_sem ↓] theorem ev_g1 (ρ:Env):ev ρ (.g 0)=.cptr (kK.map eW):=by rw [← z1w];rfl
@[go_sem ↓] theorem ev_g2 (ρ:Env):ev ρ (.g 1)=.cptr (kK.map eW):=by rw [← z1w];rfl
theorem z1x (x:W32) (i j k:Nat) (hi:1≤i∧i≤31) (hj:1≤j∧j≤31) (hk:1≤k∧k≤31):zw Tryz.prog f_zz112 [eW x,.int .i64 (i:Int),.int .i64 (j:Int),.int .i64 (k:Int)] (·=.d (eW (rr x i ^^^ rr x j ^^^ rr x k))):=by
 refine zh fol zz112_cp ?_
 have r1:=zkq x i hi.1 hi.2
 have r2:=zkq x j hj.1 hj.2
 have r3:=zkq x k hk.1 hk.2
 rw [← Int.zero_sub] at r1 r2 r3
 refine goS trivial ?_
 (refine zla trivial (r1) (r2) (r3) ?_;(repeat' (with_reducible apply Br.mk<;>intro _)))
 exact Fin.p rfl rfl
theorem z80 {l:List W32} {t:Nat} (h:t<l.length):(List.drop (t * 1) (l.map eW)).head?=some (eW (l.getD t 0)):=by
 rw [ylsQ,List.head?_drop,ylhQ,List.getD_eq_getElem?_getD,yliQ h];rfl
structure RndOk (w:List W32) (v:Nat→H8):Prop where
 s:∀ t,v (t+1)=rnd (v t) (kK.getD t 0) (w.getD t 0)
theorem z81 (s:H8) (w:List W32):RndOk w (z4x s w):=⟨fun _=>rfl⟩
def H8.mid (s v:H8) (i:Nat):H8:=⟨if 0<i then s.a+v.a else s.a,if 1<i then s.b+v.b else s.b,if 2<i then s.c+v.c else s.c,if 3<i then s.d+v.d else s.d,
 if 0<i then s.e+v.e else s.e,if 1<i then s.f+v.f else s.f,if 2<i then s.g+v.g else s.g,if 3<i then s.h+v.h else s.h⟩
def eH (s:H8):List D:=[eW s.a,eW s.b,eW s.c,eW s.d,eW s.e,eW s.f,eW s.g,eW s.h]
theorem zqv (s:H8) (b:Str) (hb:b.length=64):zw Tryz.prog f_zz97 [.agg (eH s),.list (b.map eB)] (·=.d (.agg (eH (comp s b)))):=by
 refine zw.of_deep (zm fol zz97_cp ?_)
 have hsc:=zqu b hb
 have hw:(sch b 64).length=64:=znh b 64
 unfold comp
 generalize sch b 64=w at hsc hw ⊢
 have hR:=z81 s w
 have hR0:z4x s w 0=s:=rfl
 generalize z4x s w=v at hR hR0 ⊢
 obtain ⟨hn,htk,hall⟩:=zws hw
 obtain ⟨kn,ktk,kall⟩:=zws zxw
 have kl:=zxw
 simp only [eH]
 refine goS trivial ?_
 refine goR trivial ?_
 refine zx fun g hg=>?_
 refine goS trivial ?_
 have z64:(zr 64 (D.int IntKind.u32 0)).length=64:=rfl
 have z64d:List.drop 64 (zr 64 (D.int IntKind.u32 0))=[]:=rfl
 (refine zb7 (nn hn (nn htk (nn hall (nn z64 (nn z64d (nn kl ktk)))))) (hsc) ?_;(repeat' (with_reducible apply Br.mk<;>intro _)))
 generalize hG0:noGh.set g _=G0
 have hGg:G0.c g=some [eW s.a,eW s.b,eW s.c,eW s.d,eW s.e,eW s.f,eW s.g,eW s.h]:=by rw [← hG0];simp [upd]
 refine W.loop (fun m st=>∃ (t:Nat) (b5 b6 b7 b8:Blk),t≤64∧m=64 - t ∧
  st=(E [(22,.d (.int .i64 (t:Int))),(21,.d (.agg (kK.map eW))),(7,.ptr 0 7 1 0),(6,.ptr 0 6 1 0),(5,.ptr 0 5 1 0),(4,.ptr 0 4 1 0),(2,.d (.gp g 0))],
   HB [(4,⟨1,some (zr 8 (D.int .u32 0))⟩),(5,⟨1,some (w.map eW)⟩),(6,⟨1,some [eW (v t).a,eW (v t).b,eW (v t).c,eW (v t).d]⟩),(7,⟨1,some [eW (v t).e,eW (v t).f,eW (v t).g,eW (v t).h]⟩)],[],G0))
  ⟨_,_,z7 (by rw [hR0]),0,⟨0,none⟩,⟨0,none⟩,⟨0,none⟩,⟨0,none⟩,by omega,rfl,rfl⟩ ?_
 rintro m st ⟨t,-,-,-,-,ht,rfl,rfl⟩
 by_cases h1:(t:Int)<64
 case pos =>
  have m1:=fun x=>z1x x 6 11 25 (by omega) (by omega) (by omega)
  have m2:=fun x=>z1x x 2 13 22 (by omega) (by omega) (by omega)
  have hs:=hR.s t
  obtain ⟨⟨a,b,c,d,e,f,g1,h⟩,hv⟩:∃ x,x=v t:=⟨_,rfl⟩
  rw [← hv] at hs ⊢
  have hwv:zae false 1 (some (w.map eW)) (t * 1)=some (.d (eW (w.getD t 0))):=by
   rw [ylsQ,← zhu hw];exact zco (by omega)
  have hkv:=z80 (l:=kK) (t:=t) (by rw [kl];omega)
  generalize w.getD t 0=wt at hs hwv
  generalize kK.getD t 0=kt at hs hkv
  simp only
  (refine zgi (nn h1 (nn hwv hkv)) (m1 _) (m2 _) ?_;(repeat' (with_reducible apply Br.mk<;>intro _)))
  refine ⟨_,_,?_,z7 (by rw [hs];rfl),t+1,⟨0,none⟩,⟨0,none⟩,⟨0,none⟩,⟨0,none⟩,by omega,rfl,rfl⟩
  omega
 obtain rfl:t=64:=by omega
 (refine goX h1 ?_;(repeat' (with_reducible apply Br.mk<;>intro _)))
 obtain ⟨⟨a,b,c,d,e,f,g1,h⟩,hv⟩:∃ x,x=v 64:=⟨_,rfl⟩
 rw [← hv]
 obtain ⟨sa,sb,sc,sd,se,sf,sg,sh⟩:=s
 simp only at hGg ⊢
 refine W.loop (fun m st=>∃ (i:Nat) (G:Gh),i≤4∧m=4 - i∧G.c g=some (eH (H8.mid ⟨sa,sb,sc,sd,se,sf,sg,sh⟩ ⟨a,b,c,d,e,f,g1,h⟩ i)) ∧
  st=(E [(94,.d (.int .i64 (i:Int))),(7,.ptr 0 7 1 0),(6,.ptr 0 6 1 0),(4,.ptr 0 4 1 0),(2,.d (.gp g 0))],
   HB [(4,⟨1,some (zr 8 (D.int .u32 0))⟩),(5,⟨1,some (w.map eW)⟩),(6,⟨1,some [eW a,eW b,eW c,eW d]⟩),(7,⟨1,some [eW e,eW f,eW g1,eW h]⟩)],[],G))
  ⟨_,_,z7 rfl,0,G0,by omega,rfl,hGg,rfl⟩ ?_
 rintro m st ⟨i,G,hi,rfl,hG,rfl⟩
 rcases (by omega:i=0∨i=1∨i=2∨i=3∨i=4) with rfl|rfl|rfl|rfl|rfl
 · simp only [H8.mid,eH,Nat.lt_irrefl,Nat.reduceLT,if_true,if_false,Nat.not_lt_zero] at hG
   refine goS hG ?_
   (refine goX hG ?_;(repeat' (with_reducible apply Br.mk<;>intro _)))
   refine ⟨_,_,?_,z7 rfl,1,_,by omega,rfl,?_,rfl⟩
   · omega
   · simp [upd,H8.mid,eH]
 · simp only [H8.mid,eH,Nat.lt_irrefl,Nat.reduceLT,if_true,if_false,Nat.not_lt_zero] at hG
   refine goS hG ?_
   (refine goX hG ?_;(repeat' (with_reducible apply Br.mk<;>intro _)))
   refine ⟨_,_,?_,z7 rfl,2,_,by omega,rfl,?_,rfl⟩
   · omega
   · simp [upd,H8.mid,eH]
 · simp only [H8.mid,eH,Nat.lt_irrefl,Nat.reduceLT,if_true,if_false,Nat.not_lt_zero] at hG
   refine goS hG ?_
   (refine goX hG ?_;(repeat' (with_reducible apply Br.mk<;>intro _)))
   refine ⟨_,_,?_,z7 rfl,3,_,by omega,rfl,?_,rfl⟩
   · omega
   · simp [upd,H8.mid,eH]
 · simp only [H8.mid,eH,Nat.lt_irrefl,Nat.reduceLT,if_true,if_false,Nat.not_lt_zero] at hG
   refine goS hG ?_
   (refine goX hG ?_;(repeat' (with_reducible apply Br.mk<;>intro _)))
   refine ⟨_,_,?_,z7 rfl,4,_,by omega,rfl,?_,rfl⟩
   · omega
   · simp [upd,H8.mid,eH]
 · simp only [H8.mid,eH,Nat.lt_irrefl,Nat.reduceLT,if_true,if_false,Nat.not_lt_zero] at hG
   have z8:(zr 8 (D.int .u32 0)).length=8:=rfl
   have z8d:List.drop 8 (zr 8 (D.int .u32 0))=[]:=rfl
   refine goS hG ?_
   (refine goX (nn hG (nn z8 z8d)) ?_;(repeat' (with_reducible apply Br.mk<;>intro _)))
   refine Fin.eq (r:=.d (.agg (eH (H8.add ⟨sa,sb,sc,sd,se,sf,sg,sh⟩ ⟨a,b,c,d,e,f,g1,h⟩)))) (by simp -dsimp (disch:=first|omega|(simp only [go_sem];omega)) only [go_sem,seval,Nat.reduceEqDiff,Nat.reduceLeDiff,hG,eH,H8.add]) ⟨rfl,_,.refl _,rfl⟩
