/-
 Wire: integers and byte strings written,by the program and by the reference.
 Conditions: of each contract as it says.
-/
import Derived.Test.YtclmdhceceacoaaGreatDoorW0
import Derived.Test.YtclmdhceceacoaaGreatDoorT44z
import Derived.Test.YtclmdhceceacoaaGreatDoorS01
namespace Go.Proofs.YtclmdhceceacoaaGreatDoor
open Go Go.E2 CW
set_option linter.unusedSimpArgs false
set_option maxHeartbeats 4000000
theorem eB_mk (b:UInt8):eB b=.int .u8 b.toNat:=rfl
abbrev eI (n:Int):D:=.int .i64 n
@[go_sem] theorem eI_all (l:List Int):(l.map eI).all (sizeOk 1)=true:=by simp [List.all_map,Function.comp_def,sizeOk,D.cells,D.one]
theorem hi_div {z:Nat} (h:¬ z < 128):z / 128 < z:=Nat.div_lt_self (by omega) (by decide)
theorem eB_lo {z:Nat} (h:z < 256):[D.int .u8 ((z:Nat):Int)]=[UInt8.ofNat z].map eB:=by
 show _=[D.int .u8 _]
 rw [ofNat_lo h]
theorem Int_T (n:Int) (hn:i64 n) (σ:List Hp) (G:Gh):CallT Tryz.prog f_zz62 ([.int .i64 n].map .d) σ G fun r σ' G'=>σ'=σ∧∃ x,r=.d x∧GV 1 G' x ((intB n).map eB)∧GTo .nilS x G G':=by
 refine callT_of_W fol zz62_cp ?_
 obtain ⟨x,y,w1,w2,w3⟩:=w_zig hn
 have hl:=intB_len hn
 have hz:=zig_lt hn
 have hm:=mostBytes_eq
 refine goS trivial ?_
 refine goR (nn w1 (nn w2 w3)) ?_
 refine W.loop (fun m st=>∃ z p x G1,m=z∧z < 18446744073709551616∧intB n=p ++ leb z∧GV 1 G1 x (p.map eB)∧GTo .nilS x G G1 ∧
  st=(E [(3,.d (.int .u64 ((z:Nat):Int))),(4,.d x)],HB [],σ,G1))
  ⟨_,_,stle,zig n,[],.nilS,G,rfl,hz,rfl,.nil,GTo.refl _ _,rfl⟩ ?_
 rintro m st ⟨z,p,x,G1,rfl,hz,hp,hx,hto,rfl⟩
 have hpl:p.length≤10:=by rw [hp,List.length_append] at hl; omega
 by_cases h1:(127:Int) < ((m:Nat):Int)
 case pos =>
  have h2:¬ m < 128:=by omega
  have w4:=w_or128 m
  have w5:=w_shr7 m
  rw [leb_hi h2] at hp
  rcases hx.shape with rfl|⟨b0,n0,c0,rfl⟩
  all_goals
   (refine goX (nn h1 w4) ?_; (repeat' (with_reducible apply Br.mk<;>intro _)))
   refine appV_GV2 hx (viewC_list (es:=[eB (UInt8.ofNat (m % 128 + 128))]) rfl) rfl rfl rfl (by rw [List.length_map,mostBytes_eq]; show (_ + 1) * 1≤_; omega) fun x' G2 hg hto2=>?_
   have hg:GV 1 G2 x' ((p ++ [UInt8.ofNat (m % 128 + 128)]).map eB):=by rw [List.map_append]; exact hg
   rcases hg.shape with rfl|⟨b',n',cap',rfl⟩
   all_goals
    refine goS trivial ?_
    refine goR w5 ?_
    refine ⟨_,_,?_,stle,m / 128,p ++ [UInt8.ofNat (m % 128 + 128)],_,G2,rfl,by omega,by rw [hp,List.append_assoc]; rfl,hg,hto.trans hto2,rfl⟩
    exact hi_div h2
 case neg =>
  have h2:m < 128:=by omega
  rw [leb_lo h2] at hp
  rcases hx.shape with rfl|⟨b0,n0,c0,rfl⟩
  all_goals
   (refine goX h1 ?_; (repeat' (with_reducible apply Br.mk<;>intro _)))
   refine appV_GV2 hx (viewC_list (es:=[.int .u8 ((m:Nat):Int)]) rfl) rfl rfl rfl (by rw [List.length_map,mostBytes_eq]; show (_ + 1) * 1≤_; omega) fun x' G2 hg hto2=>?_
   have hg:GV 1 G2 x' ((intB n).map eB):=by rw [hp,List.map_append,← eB_lo (by omega)]; exact hg
   rcases hg.shape with rfl|⟨b',n',cap',rfl⟩
   all_goals
    refine goS trivial ?_
    refine goR trivial ?_
    exact Fin.eq rfl ⟨rfl,_,rfl,hg,hto.trans hto2⟩
theorem Int_ok (n:Int) (hn:i64 n):CallP Tryz.prog f_zz62 [.int .i64 n] (·=.d (.list ((intB n).map eB))) :=
 CallP.of_deep ((Int_T n hn [] noGh).mono fun r σ' G' ⟨h1,x,h2,h3,_⟩=>⟨h1,_,by rw [h2]; exact .d _ _ h3.dr,rfl⟩)
theorem appV_str_list {d:Option Nat} {by_:Nat} {z:List D} {x:D} {s:List UInt8} {ρ:Env} {L:Hp} {σ:List Hp} {G:Gh} {K:St→Prop} {hk:Hide K}:appV d 1 by_ z x (.str s) ρ L σ G hk=appV d 1 by_ z x (.list (s.map eB)) ρ L σ G hk:=by
 have e:viewS G 1 (.list (s.map eB))=viewS G 1 (.str s):=by
  rw [viewS_of (viewC_list (eB_all s)),List.length_map]
  exact congrArg (fun c=>some (s.length,c)) (flat_u8s s)
 unfold appV; rw [e]
theorem len_i64 {n:Nat} (h:n≤1000000):i64 (n:Int):=⟨by omega,by omega⟩
theorem Bytes_T (s:Str) (hs:s.length≤1000000) (σ:List Hp) (G:Gh):CallT Tryz.prog f_zz53 ([.str s].map .d) σ G fun r σ' G'=>σ'=σ∧∃ x,r=.d x∧GV 1 G' x ((bytesB s).map eB)∧GTo .nilS x G G':=by
 refine callT_of_W fol zz53_cp ?_
 have hl:=intB_len (len_i64 hs)
 refine goS trivial ?_
 refine goR trivial ?_
 apply wC_g (Int_T _ (len_i64 hs) _ _)
 focus (simp -dsimp (disch:=first|omega|(simp only [go_sem]; omega)) only [go_sem,seval,Nat.reduceEqDiff,Nat.reduceLeDiff]<;>fail)
 focus (simp -dsimp (disch:=first|omega|(simp only [go_sem]; omega)) only [go_sem,seval,Nat.reduceEqDiff,Nat.reduceLeDiff]<;>rfl)
 rintro _ G1 ⟨x,rfl,hx,hto⟩
 rcases hx.shape with rfl|⟨b0,n0,c0,rfl⟩
 all_goals
  refine goS trivial ?_
  refine goR trivial ?_
  rw [appV_str_list]
  refine appV_GV2 hx (viewC_list (eB_all s)) rfl (eB_all s) rfl (by rw [List.length_map,List.length_map,mostBytes_eq]; show _ * 1≤_; omega) fun x' G2 hg hto2=>?_
  have hg:GV 1 G2 x' ((bytesB s).map eB):=by rw [bytesB,List.map_append]; exact hg
  rcases hg.shape with rfl|⟨b',n',cap',rfl⟩
  all_goals
   refine goS trivial ?_
   refine goR trivial ?_
   exact Fin.eq rfl ⟨rfl,_,rfl,hg,hto.trans hto2⟩
theorem Bytes_ok (s:Str) (hs:s.length≤1000000):CallP Tryz.prog f_zz53 [.str s] (·=.d (.list ((bytesB s).map eB))) :=
 CallP.of_deep ((Bytes_T s hs [] noGh).mono fun r σ' G' ⟨h1,x,h2,h3,_⟩=>⟨h1,_,by rw [h2]; exact .d _ _ h3.dr,rfl⟩)
theorem w_rem (z m:Nat) (hm:m ≠ 0):binD .rem (.int .u64 z) (.int .u64 m)=some (.int .u64 ((z % m:Nat):Int)):=by
 rw [binD_rem _ _ _ (by omega)]; rfl
theorem w_quo (z m:Nat) (hz:z < 18446744073709551616) (hm:m ≠ 0):binD .quo (.int .u64 z) (.int .u64 m)=some (.int .u64 ((z / m:Nat):Int)):=by
 have h1:z / m≤z:=Nat.div_le_self _ _
 have e:(z:Int).tdiv (m:Int)=((z / m:Nat):Int):=rfl
 have h2:((z / m:Nat):Int)≤(z:Int):=by exact_mod_cast h1
 rw [binD_quo _ _ _ (by omega),e]
 generalize z / m=q at h2 ⊢
 rw [wrap_u64 (by omega) (by omega)]
theorem rInt_T (n:Int) (hn:i64 n) (σ:List Hp) (G:Gh):CallT Tryz.prog f_zz25 ([.int .i64 n].map .d) σ G fun r σ' G'=>σ'=σ∧∃ x,r=.d x∧GV 1 G' x ((intB n).map eB)∧GTo .nilS x G G':=by
 refine callT_of_W fol zz25_cp ?_
 have hl:=intB_len hn
 have hz:=zig_lt hn
 have hm:=mostBytes_eq
 obtain ⟨hn1,hn2⟩:=hn
 have hz1:(n < 0→(-1 - n) * 2 + 1=((zig n:Nat):Int))∧(¬ n < 0→n * 2=((zig n:Nat):Int)):=by
  unfold zig
  exact ⟨fun h=>by rw [if_pos h]; omega,fun h=>by rw [if_neg h]; omega⟩
 refine goS trivial ?_
 (refine goX trivial ?_; (repeat' (with_reducible apply Br.mk<;>intro _)))
 all_goals
  first|have hz2:=hz1.1 ‹_›|have hz2:=hz1.2 ‹_›
  refine W.loop (fun m st=>∃ z p x G1,m=z∧z < 18446744073709551616∧intB n=p ++ leb z∧GV 1 G1 x (p.map eB)∧GTo .nilS x G G1 ∧
   st=(E [(3,.d (.int .u64 ((z:Nat):Int))),(4,.d x)],HB [],σ,G1))
   ⟨_,_,st_le (by (simp -dsimp (disch:=first|omega|(simp only [go_sem]; omega)) only [go_sem,seval,Nat.reduceEqDiff,Nat.reduceLeDiff,hz2]<;>((repeat' apply And.intro)<;>first|exact VLe.refl _|(apply vle_int; omega)|(apply vle_int; simp; done)|exact VLe.own _ _|exact VLe.nilown _|exact VLe.norm _))),zig n,[],.nilS,G,rfl,hz,rfl,.nil,GTo.refl _ _,rfl⟩ ?_
  rintro m st ⟨z,p,x,G1,rfl,hz,hp,hx,hto,rfl⟩
  have hpl:p.length≤10:=by rw [hp,List.length_append] at hl; omega
  by_cases h1:(128:Int)≤((m:Nat):Int)
  case pos =>
   have h2:¬ m < 128:=by omega
   have h3:m % 128 < 128:=Nat.mod_lt _ (by decide)
   have w4:binD .rem (.int .u64 ((m:Nat):Int)) (.int .u64 128)=some (.int .u64 ((m % 128:Nat):Int)):=w_rem m 128 (by decide)
   have w5:binD .quo (.int .u64 ((m:Nat):Int)) (.int .u64 128)=some (.int .u64 ((m / 128:Nat):Int)):=w_quo m 128 hz (by decide)
   have w6:((m % 128:Nat):Int) + 128=(((UInt8.ofNat (m % 128 + 128)).toNat:Nat):Int):=by rw [ofNat_lo (by omega)]; rfl
   rw [leb_hi h2] at hp
   rcases hx.shape with rfl|⟨b0,n0,c0,rfl⟩
   all_goals
    (refine goX (nn h1 (nn w4 w6)) ?_; (repeat' (with_reducible apply Br.mk<;>intro _)))
    refine appV_GV2 hx (viewC_list (es:=[eB (UInt8.ofNat (m % 128 + 128))]) rfl) rfl rfl rfl (by rw [List.length_map,mostBytes_eq]; show (_ + 1) * 1≤_; omega) fun x' G2 hg hto2=>?_
    have hg:GV 1 G2 x' ((p ++ [UInt8.ofNat (m % 128 + 128)]).map eB):=by rw [List.map_append]; exact hg
    rcases hg.shape with rfl|⟨b',n',cap',rfl⟩
    all_goals
     refine goS trivial ?_
     refine goR w5 ?_
     refine ⟨_,_,?_,stle,m / 128,p ++ [UInt8.ofNat (m % 128 + 128)],_,G2,rfl,by omega,by rw [hp,List.append_assoc]; rfl,hg,hto.trans hto2,rfl⟩
     exact hi_div h2
  case neg =>
   have h2:m < 128:=by omega
   rw [leb_lo h2] at hp
   rcases hx.shape with rfl|⟨b0,n0,c0,rfl⟩
   all_goals
    (refine goX h1 ?_; (repeat' (with_reducible apply Br.mk<;>intro _)))
    refine appV_GV2 hx (viewC_list (es:=[.int .u8 ((m:Nat):Int)]) rfl) rfl rfl rfl (by rw [List.length_map,mostBytes_eq]; show (_ + 1) * 1≤_; omega) fun x' G2 hg hto2=>?_
    have hg:GV 1 G2 x' ((intB n).map eB):=by rw [hp,List.map_append,← eB_lo (by omega)]; exact hg
    rcases hg.shape with rfl|⟨b',n',cap',rfl⟩
    all_goals
     refine goS trivial ?_
     refine goR trivial ?_
     exact Fin.eq rfl ⟨rfl,_,rfl,hg,hto.trans hto2⟩
theorem rInt_ok (n:Int) (hn:i64 n):CallP Tryz.prog f_zz25 [.int .i64 n] (·=.d (.list ((intB n).map eB))) :=
 CallP.of_deep ((rInt_T n hn [] noGh).mono fun r σ' G' ⟨h1,x,h2,h3,_⟩=>⟨h1,_,by rw [h2]; exact .d _ _ h3.dr,rfl⟩)
theorem rBytes_T (s:Str) (hs:s.length≤1000000) (σ:List Hp) (G:Gh):CallT Tryz.prog f_zz16 ([.str s].map .d) σ G fun r σ' G'=>σ'=σ∧∃ x,r=.d x∧GV 1 G' x ((bytesB s).map eB)∧GTo .nilS x G G':=by
 refine callT_of_W fol zz16_cp ?_
 have hl:=intB_len (len_i64 hs)
 refine goS trivial ?_
 refine goR trivial ?_
 apply wC_g (rInt_T _ (len_i64 hs) _ _)
 focus (simp -dsimp (disch:=first|omega|(simp only [go_sem]; omega)) only [go_sem,seval,Nat.reduceEqDiff,Nat.reduceLeDiff]<;>fail)
 focus (simp -dsimp (disch:=first|omega|(simp only [go_sem]; omega)) only [go_sem,seval,Nat.reduceEqDiff,Nat.reduceLeDiff]<;>rfl)
 rintro _ G1 ⟨x,rfl,hx,hto⟩
 rcases hx.shape with rfl|⟨b0,n0,c0,rfl⟩
 all_goals
  refine goS trivial ?_
  refine goR trivial ?_
  rw [appV_str_list]
  refine appV_GV2 hx (viewC_list (eB_all s)) rfl (eB_all s) rfl (by rw [List.length_map,List.length_map,mostBytes_eq]; show _ * 1≤_; omega) fun x' G2 hg hto2=>?_
  have hg:GV 1 G2 x' ((bytesB s).map eB):=by rw [bytesB,List.map_append]; exact hg
  rcases hg.shape with rfl|⟨b',n',cap',rfl⟩
  all_goals
   refine goS trivial ?_
   refine goR trivial ?_
   exact Fin.eq rfl ⟨rfl,_,rfl,hg,hto.trans hto2⟩
theorem rBytes_ok (s:Str) (hs:s.length≤1000000):CallP Tryz.prog f_zz16 [.str s] (·=.d (.list ((bytesB s).map eB))) :=
 CallP.of_deep ((rBytes_T s hs [] noGh).mono fun r σ' G' ⟨h1,x,h2,h3,_⟩=>⟨h1,_,by rw [h2]; exact .d _ _ h3.dr,rfl⟩)
end Go.Proofs.YtclmdhceceacoaaGreatDoor
/-
 SHA-256: words as data; rotations.
 Conditions: of each law and contract as it says.
-/
namespace Go.E2
open CH CW
def eW (w:W32):D:=.int .u32 (w.toNat:Int)
@[go_sem ↓] theorem eW_one (w:W32):(eW w).one=true:=rfl
@[go_sem ↓] theorem eW_size (w:W32):sizeOk 1 (eW w)=true:=rfl
@[go_sem ↓] theorem eW_cells (w:W32):(eW w).cells=[eW w]:=rfl
theorem wrap_u32N {n:Nat} (h:n < 2 ^ 32):IntKind.u32.wrap (n:Int)=(n:Int):=by
 have h2:(n:Int) % 4294967296=n:=Int.emod_eq_of_lt (by omega) (by omega)
 simp [IntKind.wrap,IntKind.bits,IntKind.signed,h2]
theorem ofInt_W (w:W32):BitVec.ofInt 32 (w.toNat:Int)=w:=by
 apply BitVec.eq_of_toNat_eq
 rw [ofInt_toNat 32 w.toNat w.isLt]
theorem bW (n:W32):IntKind.u32.wrap ((n.toNat:Nat):Int)=(n.toNat:Int):=wrap_u32N n.isLt
@[go_sem] theorem binD_xorW (a b:W32):binD .xor (eW a) (eW b)=some (eW (a ^^^ b)):=by
  show some (D.int .u32 (IntKind.u32.wrap ((BitVec.ofInt 32 a.toNat ^^^ BitVec.ofInt 32 b.toNat).toNat:Int)))=_
  rw [ofInt_W,ofInt_W,bW]; rfl
@[go_sem] theorem binD_andW (a b:W32):binD .and (eW a) (eW b)=some (eW (a &&& b)):=by
  show some (D.int .u32 (IntKind.u32.wrap ((BitVec.ofInt 32 a.toNat &&& BitVec.ofInt 32 b.toNat).toNat:Int)))=_
  rw [ofInt_W,ofInt_W,bW]; rfl
@[go_sem] theorem binD_orW (a b:W32):binD .or (eW a) (eW b)=some (eW (a ||| b)):=by
  show some (D.int .u32 (IntKind.u32.wrap ((BitVec.ofInt 32 a.toNat ||| BitVec.ofInt 32 b.toNat).toNat:Int)))=_
  rw [ofInt_W,ofInt_W,bW]; rfl
theorem wrap_mod (n:Nat):IntKind.u32.wrap (n:Int)=((n % 2 ^ 32:Nat):Int):=by
 simp [IntKind.wrap,IntKind.bits,IntKind.signed]
@[go_sem] theorem binD_addW (a b:W32):binD .add (eW a) (eW b)=some (eW (a + b)):=by
  show some (D.int .u32 (IntKind.u32.wrap ((a.toNat:Int) + (b.toNat:Int))))=_
  rw [← Int.natCast_add,wrap_mod]
  rw [eW,BitVec.toNat_add]
@[go_sem] theorem binD_notL (a:W32):binD .xor (.int .u32 4294967295) (eW a)=some (eW (~~~a)):=by
  have:=binD_xorW (BitVec.allOnes 32) a
  rw [BitVec.allOnes_xor] at this
  exact this
@[go_sem] theorem binD_notR (a:W32):binD .xor (eW a) (.int .u32 4294967295)=some (eW (~~~a)):=by
  have:=binD_xorW a (BitVec.allOnes 32)
  rw [BitVec.xor_allOnes] at this
  exact this
theorem binD_shlW (a:W32) (k:IntKind) {n:Nat} (hn:n≤32):binD .shl (eW a) (.int k (n:Int))=some (eW (a <<< n)):=by
 show (if (n:Int) < 0 then none else some (D.int .u32 (IntKind.u32.wrap ((a.toNat:Int) * 2 ^ (min (n:Int).toNat 32)))))=_
 rw [if_neg (by omega),Int.toNat_natCast,Nat.min_eq_left hn]
 rw [show (a.toNat:Int) * 2 ^ n=((a.toNat * 2 ^ n:Nat):Int) from by push_cast; rfl,wrap_mod,eW,BitVec.toNat_shiftLeft,Nat.shiftLeft_eq]
theorem binD_shrW (a:W32) (k:IntKind) {n:Nat} (hn:n≤32):binD .shr (eW a) (.int k (n:Int))=some (eW (a >>> n)):=by
 show (if (n:Int) < 0 then none else some (D.int .u32 (Int.fdiv (a.toNat:Int) (2 ^ (min (n:Int).toNat 32)))))=_
 rw [if_neg (by omega),Int.toNat_natCast,Nat.min_eq_left hn,Int.fdiv_eq_ediv_of_nonneg _ (Int.pow_nonneg (by omega)),eW,BitVec.toNat_ushiftRight,Nat.shiftRight_eq_div_pow]
 norm_cast
@[go_sem] theorem shlW8 (a:W32):binD .shl (eW a) (.int .u64 8)=some (eW (a <<< 8)):=binD_shlW a .u64 (n:=8) (by decide)
@[go_sem] theorem shlW16 (a:W32):binD .shl (eW a) (.int .u64 16)=some (eW (a <<< 16)):=binD_shlW a .u64 (n:=16) (by decide)
@[go_sem] theorem shlW24 (a:W32):binD .shl (eW a) (.int .u64 24)=some (eW (a <<< 24)):=binD_shlW a .u64 (n:=24) (by decide)
@[go_sem] theorem shrW3 (a:W32):binD .shr (eW a) (.int .u64 3)=some (eW (a >>> 3)):=binD_shrW a .u64 (n:=3) (by decide)
@[go_sem] theorem shrW10 (a:W32):binD .shr (eW a) (.int .u64 10)=some (eW (a >>> 10)):=binD_shrW a .u64 (n:=10) (by decide)
theorem wOf_nat (b:UInt8):(wOf b).toNat=b.toNat:=by
 have:=b.toNat_lt
 unfold wOf; rw [BitVec.toNat_ofNat]; omega
@[go_sem high] theorem vConv_W (b:UInt8):vConv .u32 (.d (.int .u8 (b.toNat:Int)))=some (.d (eW (wOf b))):=by
  show some (AV.d (.int .u32 (IntKind.u32.wrap (b.toNat:Int))))=_
  rw [wrap_u32N (by have:=b.toNat_lt; omega),eW,wOf_nat]
end Go.E2
namespace Go.Proofs.YtclmdhceceacoaaGreatDoor
open Go Go.E2 CW CH
set_option linter.unusedSimpArgs false
set_option maxHeartbeats 4000000
theorem rot_and {k:Nat} (h1:1≤k) (h2:k≤31):binD .and (.int .u64 (18446744073709551616 - (k:Int))) (.int .u64 31)=some (.int .u64 (32 - (k:Int))):=by
 have:k=1∨k=2∨k=3∨k=4∨k=5∨k=6∨k=7∨k=8∨k=9∨k=10∨k=11∨k=12∨k=13∨k=14∨k=15∨k=16∨k=17∨k=18∨k=19∨k=20∨k=21∨k=22∨k=23∨k=24∨k=25∨k=26∨k=27∨k=28∨k=29∨k=30∨k=31:=by omega
 rcases this with rfl|rfl|rfl|rfl|rfl|rfl|rfl|rfl|rfl|rfl|rfl|rfl|rfl|rfl|rfl|rfl|rfl|rfl|rfl|rfl|rfl|rfl|rfl|rfl|rfl|rfl|rfl|rfl|rfl|rfl|rfl<;>rfl
theorem Rot_ok (x:W32) (k:Nat) (h1:1≤k) (h2:k≤31):CallP Tryz.prog f_zz9 [eW x,.int .i64 (-(k:Int))] (·=.d (eW (rr x k))):=by
 refine callP_of_W fol zz9_cp ?_
 have e1:IntKind.u64.wrap (-(k:Int))=18446744073709551616 - (k:Int):=by
  have:(-(k:Int)) % 18446744073709551616=18446744073709551616 - (k:Int):=by omega
  simp [IntKind.wrap,IntKind.bits,IntKind.signed,this]
 have e2:=rot_and h1 h2
 have e3:binD .shl (eW x) (.int .u64 (32 - (k:Int)))=some (eW (x <<< (32 - k))):=by
  have:=binD_shlW x .u64 (n:=32 - k) (by omega)
  rwa [show ((32 - k:Nat):Int)=32 - (k:Int) from by omega] at this
 have e4:=binD_shrW x .u64 (n:=k) (by omega)
 have e5:(32:Int) - (32 - (k:Int))=(k:Int):=by omega
 refine goS trivial ?_
 (refine goX (nn e1 (nn e2 (nn e3 (nn e4 e5)))) ?_; (repeat' (with_reducible apply Br.mk<;>intro _)))
 exact Fin.p rfl (by rw [rr_left])
theorem rotr_ok (x:W32) (k:Nat) (h1:1≤k) (h2:k≤31):CallP Tryz.prog f_zz22 [eW x,.int .i64 (k:Int)] (·=.d (eW (rr x k))):=by
 refine callP_of_W fol zz22_cp ?_
 have e3:binD .shl (eW x) (.int .i64 (32 - (k:Int)))=some (eW (x <<< (32 - k))):=by
  have:=binD_shlW x .i64 (n:=32 - k) (by omega)
  rwa [show ((32 - k:Nat):Int)=32 - (k:Int) from by omega] at this
 have e4:=binD_shrW x .i64 (n:=k) (by omega)
 refine goS trivial ?_
 (refine goX (nn e3 e4) ?_; (repeat' (with_reducible apply Br.mk<;>intro _)))
 exact Fin.p rfl rfl
end Go.Proofs.YtclmdhceceacoaaGreatDoor
/-
 SHA-256: the schedule of a block,by the program and by the reference.
 Conditions: of each contract as it says.
-/
namespace Go.Proofs.YtclmdhceceacoaaGreatDoor
open Go Go.E2 CW CH
set_option linter.unusedSimpArgs false
set_option maxHeartbeats 4000000
def wCells (w:List W32):List D:=w.map eW ++ List.replicate (64 - w.length) (eW 0)
theorem wCells_len {w:List W32} (h:w.length≤64):(wCells w).length=64:=by
 rw [wCells,List.length_append,List.length_map,List.length_replicate]; omega
theorem wCells_get {w:List W32} {i:Nat} (h:i < w.length):(wCells w)[i]?=some (eW (w.getD i 0)):=by
 rw [wCells,List.getElem?_append_left (by rw [List.length_map]; exact h),List.getElem?_map,List.getElem?_eq_getElem h,List.getD_eq_getElem?_getD,List.getElem?_eq_getElem h]; rfl
theorem wCells_v {w:List W32} {i:Nat} (h:i < w.length):vCells false 1 (some (wCells w)) i=some (.d (eW (w.getD i 0))):=by
 have h1:=wCells_get h
 have h2:(List.drop i (wCells w)).head?=some (eW (w.getD i 0)):=by rw [List.head?_drop]; exact h1
 simp only [vCells,loadD,h2]; rfl
theorem wCells_set {w:List W32} (h:w.length < 64) (x:W32):(wCells w).take w.length ++ [eW x] ++ (wCells w).drop (w.length + 1)=wCells (w ++ [x]):=by
 have e1:(wCells w).take w.length=w.map eW:=by rw [wCells]; exact List.take_left' (by rw [List.length_map])
 have e2:(wCells w).drop (w.length + 1)=List.replicate (64 - (w.length + 1)) (eW 0):=by
  rw [wCells,List.drop_append,List.length_map,List.drop_of_length_le (by rw [List.length_map]; omega),List.nil_append,List.drop_replicate]
  congr 1; omega
 rw [e1,e2,wCells,List.map_append,List.length_append]; rfl
theorem wCells_64 {w:List W32} (h:w.length=64):wCells w=w.map eW:=by rw [wCells,h]; simp
theorem sch_succ_lo (b:Str) {t:Nat} (h:t < 16):sch b (t + 1)=sch b t ++ [w4 ((b.drop (4 * t)).take 4)]:=by rw [sch,if_pos h]
theorem sch_succ_hi (b:Str) {t:Nat} (h:16≤t):sch b (t + 1)=sch b t ++ [nextW (sch b t)]:=by rw [sch,if_neg (by omega)]
theorem four {b:Str} {t:Nat} (h:4 * t + 3 < b.length):(b.drop (4 * t)).take 4=[b[4 * t],b[4 * t + 1],b[4 * t + 2],b[4 * t + 3]]:=by
 rw [List.drop_eq_getElem_cons (by omega),List.drop_eq_getElem_cons (by omega),List.drop_eq_getElem_cons (by omega),List.drop_eq_getElem_cons (by omega)]
 rfl
theorem w4_or (a b c d:UInt8):w4 [a,b,c,d]=wOf a <<< 24 ||| wOf b <<< 16 ||| wOf c <<< 8 ||| wOf d:=by
 simp only [w4,List.foldl_cons,List.foldl_nil,BitVec.shiftLeft_or_distrib,← BitVec.shiftLeft_add]
 simp
structure SchOk (b:Str) (s:Nat→List W32):Prop where
 z:s 0=[]
 len:∀ t,(s t).length=t
 lo:∀ t,t < 16→s (t + 1)=s t ++ [w4 ((b.drop (4 * t)).take 4)]
 hi:∀ t,16≤t→s (t + 1)=s t ++ [nextW (s t)]
theorem schOk (b:Str):SchOk b (sch b):=⟨rfl,sch_len b,fun _ h=>sch_succ_lo b h,fun _ h=>sch_succ_hi b h⟩
theorem fin64 {w:List W32} (h:w.length=64):(w.map eW).length=64∧List.take 64 (w.map eW)=w.map eW∧(w.map eW).all D.one=true:=by
 have h1:(w.map eW).length=64:=by rw [List.length_map,h]
 exact ⟨h1,List.take_of_length_le (by omega),by simp [List.all_map,Function.comp_def,D.one,eW]⟩
theorem words_ok (b:Str) (hb:b.length=64):CallP Tryz.prog f_zz19 [.list (b.map eB)] (·=.d (.agg ((sch b 64).map eW))):=by
 refine callP_of_W fol zz19_cp ?_
 have hS:=schOk b
 generalize sch b=s at hS ⊢
 have hn0:(wCells []).length=64:=rfl
 have hd0:List.drop 64 (wCells [])=[]:=rfl
 have hz0:zr 64 (D.int IntKind.u32 0)=wCells []:=rfl
 generalize wCells []=c0 at hn0 hd0 hz0
 have hz:c0=wCells (s 0):=by rw [← hz0,hS.z]; rfl
 refine goS hz0 ?_
 refine goR hz0 ?_
 refine W.loop (fun m st=>∃ t,t≤16∧m=16 - t ∧
  st=(E [(4,.d (.int .i64 (t:Int))),(3,.ptr 0 3 1 0),(2,.ptr 0 2 1 0),(0,.d (.list (b.map eB)))],HB [(2,⟨1,some c0⟩),(3,⟨1,some (wCells (s t))⟩)],[],noGh))
  ⟨_,_,stleB (by rw [hz]),0,by omega,rfl,rfl⟩ ?_
 rintro m st ⟨t,ht,rfl,rfl⟩
 have hl:=hS.len t
 by_cases h1:(t:Int) < 16
 case pos =>
  have hl2:t * 1 + 1≤(wCells (s t)).length:=by rw [wCells_len (by omega)]; omega
  have hs:=wCells_set (w:=s t) (by omega) (w4 ((b.drop (4 * t)).take 4))
  have e0:(4 * (t:Int)).toNat=4 * t:=by omega
  have e1:(4 * (t:Int) + 1).toNat=4 * t + 1:=by omega
  have e2:(4 * (t:Int) + 2).toNat=4 * t + 2:=by omega
  have e3:(4 * (t:Int) + 3).toNat=4 * t + 3:=by omega
  rw [hl,← hS.lo t (by omega),four (by omega),w4_or] at hs
  (refine goX (nn h1 (nn eB_mk hl2)) ?_; (repeat' (with_reducible apply Br.mk<;>intro _)))
  simp only [Nat.mul_one,e0,e1,e2,e3,hs]
  refine ⟨_,_,?_,stleB rfl,t + 1,by omega,rfl,rfl⟩
  omega
 obtain rfl:t=16:=by omega
 (refine goX h1 ?_; (repeat' (with_reducible apply Br.mk<;>intro _)))
 refine W.loop (fun m st=>∃ t,16≤t∧t≤64∧m=64 - t ∧
  st=(E [(5,.d (.int .i64 (t:Int))),(3,.ptr 0 3 1 0),(2,.ptr 0 2 1 0),(0,.d (.list (b.map eB)))],HB [(2,⟨1,some c0⟩),(3,⟨1,some (wCells (s t))⟩)],[],noGh))
  ⟨_,_,stleB rfl,16,by omega,by omega,rfl,rfl⟩ ?_
 clear hl ht h1
 rintro m st ⟨t,ht0,ht,rfl,rfl⟩
 have hl:=hS.len t
 by_cases h1:(t:Int) < 64
 case pos =>
  have hl2:t * 1 + 1≤(wCells (s t)).length:=by rw [wCells_len (by omega)]; omega
  have hs:=wCells_set (w:=s t) (by omega) (nextW (s t))
  rw [hl,← hS.hi t (by omega),nextW,hl] at hs
  have r7:=fun x=>rotr_ok x 7 (by omega) (by omega)
  have r18:=fun x=>rotr_ok x 18 (by omega) (by omega)
  have r17:=fun x=>rotr_ok x 17 (by omega) (by omega)
  have r19:=fun x=>rotr_ok x 19 (by omega) (by omega)
  have f15:((t:Int) - 15).toNat * 1=t - 15:=by omega
  have f16:((t:Int) - 16).toNat * 1=t - 16:=by omega
  have f7:((t:Int) - 7).toNat * 1=t - 7:=by omega
  have f2:((t:Int) - 2).toNat * 1=t - 2:=by omega
  have g15:=wCells_v (w:=s t) (i:=t - 15) (by omega)
  have g16:=wCells_v (w:=s t) (i:=t - 16) (by omega)
  have g7:=wCells_v (w:=s t) (i:=t - 7) (by omega)
  have g2:=wCells_v (w:=s t) (i:=t - 2) (by omega)
  generalize (s t).getD (t - 15) 0=x15 at *
  generalize (s t).getD (t - 16) 0=x16 at *
  generalize (s t).getD (t - 7) 0=x7 at *
  generalize (s t).getD (t - 2) 0=x2 at *
  simp only [s0,s1] at hs
  (refine goX4 (nn h1 (nn hl2 (nn f15 (nn f16 (nn f7 (nn f2 (nn g15 (nn g16 (nn g7 g2))))))))) (r7 _) (r18 _) (r17 _) (r19 _) ?_; (repeat' (with_reducible apply Br.mk<;>intro _)))
  simp only [Nat.mul_one,hs]
  refine ⟨_,_,?_,stleB rfl,t + 1,by omega,by omega,rfl,rfl⟩
  omega
 obtain rfl:t=64:=by omega
 obtain ⟨hn,htk,hall⟩:=fin64 hl
 rw [wCells_64 hl]
 generalize (s 64).map eW=cs at hn htk hall ⊢
 (refine goX (nn h1 (nn hn (nn hn0 (nn hall (nn htk hd0))))) ?_; (repeat' (with_reducible apply Br.mk<;>intro _)))
 exact Fin.eq (r:=.d (.agg cs)) (by simp -dsimp (disch:=first|omega|(simp only [go_sem]; omega)) only [go_sem,seval,Nat.reduceEqDiff,Nat.reduceLeDiff,hn,htk,hall]) ⟨rfl,rfl,rfl⟩
theorem wCells_upd {w:List W32} (h:w.length < 64) (x y:W32):(wCells (w ++ [x])).take w.length ++ [eW y] ++ (wCells (w ++ [x])).drop (w.length + 1)=wCells (w ++ [y]):=by
 have key:∀ (A B:List D) (v u:D),(A ++ [v] ++ B).take A.length ++ [u] ++ (A ++ [v] ++ B).drop (A.length + 1)=A ++ [u] ++ B:=fun A B v u=>by simp
 have hA:((wCells w).take w.length).length=w.length:=by rw [List.length_take,wCells_len (by omega)]; omega
 have:=key ((wCells w).take w.length) ((wCells w).drop (w.length + 1)) (eW x) (eW y)
 rw [hA,wCells_set h x,wCells_set h y] at this
 exact this
theorem wCells_zero {w:List W32} (h:w.length < 64):wCells w=wCells (w ++ [0]):=by
 rw [wCells,wCells,List.map_append,List.length_append,List.append_assoc]
 congr 1
 rw [show 64 - w.length=(64 - (w.length + 1)) + 1 from by omega,List.replicate_succ]; rfl
theorem w4_snoc (l:Str) (x:UInt8):w4 (l ++ [x])=w4 l <<< 8 ||| wOf x:=by rw [w4,List.foldl_append]; rfl
theorem schedule_ok (b:Str) (hb:b.length=64):CallP Tryz.prog f_zz35 [.list (b.map eB)] (·=.d (.agg ((sch b 64).map eW))):=by
 refine callP_of_W fol zz35_cp ?_
 have hS:=schOk b
 generalize sch b=s at hS ⊢
 have hn0:(wCells []).length=64:=rfl
 have hd0:List.drop 64 (wCells [])=[]:=rfl
 have hz0:zr 64 (D.int IntKind.u32 0)=wCells []:=rfl
 generalize wCells []=c0 at hn0 hd0 hz0
 have hz:c0=wCells (s 0):=by rw [← hz0,hS.z]; rfl
 refine goS hz0 ?_
 refine goR hz0 ?_
 refine W.loop (fun m st=>∃ t,t≤64∧m=64 - t ∧
  st=(E [(11,.d (.int .i64 (t:Int))),(3,.ptr 0 3 1 0),(2,.ptr 0 2 1 0),(0,.d (.list (b.map eB)))],HB [(2,⟨1,some c0⟩),(3,⟨1,some (wCells (s t))⟩)],[],noGh))
  ⟨_,_,stleB (by rw [hz]),0,by omega,rfl,rfl⟩ ?_
 rintro m st ⟨t,ht,rfl,rfl⟩
 have hl:=hS.len t
 by_cases h1:(t:Int) < 64
 case neg =>
  obtain rfl:t=64:=by omega
  obtain ⟨hn,htk,hall⟩:=fin64 hl
  rw [wCells_64 hl]
  generalize (s 64).map eW=cs at hn htk hall ⊢
  (refine goX (nn h1 (nn hn (nn hn0 (nn hall (nn htk hd0))))) ?_; (repeat' (with_reducible apply Br.mk<;>intro _)))
  exact Fin.eq (r:=.d (.agg cs)) (by simp -dsimp (disch:=first|omega|(simp only [go_sem]; omega)) only [go_sem,seval,Nat.reduceEqDiff,Nat.reduceLeDiff,hn,htk,hall]) ⟨rfl,rfl,rfl⟩
 by_cases h2:(t:Int) < 16
 case pos =>
  obtain ⟨q,hq⟩:∃ q,q=(b.drop (4 * t)).take 4:=⟨_,rfl⟩
  have hql:q.length=4:=by rw [hq,List.length_take,List.length_drop]; omega
  have hv:vSlH 1 (some (.list (b.map eB))) (some (4 * (t:Int))) (some (4 * (t:Int) + 4))=some (.d (.list (q.map eB))):=by
   rw [vSlH_list 1 _ _ _ (by omega) (by omega) (by rw [List.length_map]; omega),if_pos (eB_all b)]
   have e1:(4 * (t:Int) + 4).toNat=4 * t + 4:=by omega
   have e2:(4 * (t:Int)).toNat=4 * t:=by omega
   rw [e1,e2,hq,List.map_take,List.map_drop,List.take_drop]
  have hs:=hS.lo t (by omega)
  rw [← hq] at hs
  obtain ⟨f,hf0,hf4,hfs⟩:∃ f:Nat→W32,f 0=0∧f 4=w4 q∧∀ j (hj:j < q.length),f (j + 1)=f j <<< 8 ||| wOf q[j] :=
   ⟨fun j=>w4 (q.take j),rfl,by show w4 (q.take 4)=_; rw [List.take_of_length_le (by omega)],fun j hj=>by show w4 (q.take (j + 1))=_; rw [List.take_succ_eq_append_getElem hj,w4_snoc]⟩
  rw [← hf4] at hs
  rw [wCells_zero (w:=s t) (by omega),← hf0]
  (refine goX (nn h1 (nn h2 hv)) ?_; (repeat' (with_reducible apply Br.mk<;>intro _)))
  refine W.loop (fun m st=>∃ j,j≤4∧m=4 - j ∧
   st=(E [(24,.d (.int .i64 (j:Int))),(23,.d (.int .i64 4)),(22,.d (.list (q.map eB))),(4,.d (.int .i64 (t:Int))),(11,.d (.int .i64 (t:Int))),(3,.ptr 0 3 1 0),(2,.ptr 0 2 1 0),(0,.d (.list (b.map eB)))],
    HB [(2,⟨1,some c0⟩),(3,⟨1,some (wCells (s t ++ [f j]))⟩)],[],noGh))
   ⟨_,_,st_leB (by (simp -dsimp (disch:=first|omega|(simp only [go_sem]; omega)) only [go_sem,seval,Nat.reduceEqDiff,Nat.reduceLeDiff,hql]<;>((repeat' apply And.intro)<;>first|exact VLe.refl _|(apply vle_int; omega)|(apply vle_int; simp; done)|exact VLe.own _ _|exact VLe.nilown _|exact VLe.norm _))) rfl,0,by omega,rfl,rfl⟩ ?_
  rintro m st ⟨j,hj,rfl,rfl⟩
  by_cases h3:(j:Int) < 4
  case neg =>
   obtain rfl:j=4:=by omega
   rw [← hs]
   (refine goX h3 ?_; (repeat' (with_reducible apply Br.mk<;>intro _)))
   refine ⟨_,_,?_,stleB rfl,t + 1,by omega,rfl,rfl⟩
   omega
  have hjl:j < q.length:=by omega
  have hu:=wCells_upd (w:=s t) (by omega) (f j) (f (j + 1))
  have hg:=wCells_v (w:=s t ++ [f j]) (i:=t) (by rw [List.length_append]; simp; omega)
  have hgd:(s t ++ [f j]).getD t 0=f j:=by
   rw [List.getD_eq_getElem?_getD,List.getElem?_append_right (by omega),hl,Nat.sub_self]; rfl
  rw [hgd] at hg
  have hg:vCells false 1 (some (wCells (s t ++ [f j]))) (t * 1)=some (.d (eW (f j))):=by rw [Nat.mul_one]; exact hg
  rw [hl,hfs j hjl] at hu
  have hl2:t * 1 + 1≤(wCells (s t ++ [f j])).length:=by rw [wCells_len (by rw [List.length_append]; simp; omega)]; omega
  (refine goX (nn h3 (nn eB_mk (nn hg hl2))) ?_; (repeat' (with_reducible apply Br.mk<;>intro _)))
  simp only [Nat.mul_one,Int.toNat_natCast,hu]
  refine ⟨_,_,?_,stleB (by rw [hfs j hjl]),j + 1,by omega,rfl,rfl⟩
  omega
 have hl2:t * 1 + 1≤(wCells (s t)).length:=by rw [wCells_len (by omega)]; omega
 have hs:=wCells_set (w:=s t) (by omega) (nextW (s t))
 rw [hl,← hS.hi t (by omega),nextW,hl] at hs
 have r7:=fun x=>Rot_ok x 7 (by omega) (by omega)
 have r18:=fun x=>Rot_ok x 18 (by omega) (by omega)
 have r17:=fun x=>Rot_ok x 17 (by omega) (by omega)
 have r19:=fun x=>Rot_ok x 19 (by omega) (by omega)
 have f15:((t:Int) - 15).toNat * 1=t - 15:=by omega
 have f16:((t:Int) - 16).toNat * 1=t - 16:=by omega
 have f7:((t:Int) - 7).toNat * 1=t - 7:=by omega
 have f2:((t:Int) - 2).toNat * 1=t - 2:=by omega
 have g15:=wCells_v (w:=s t) (i:=t - 15) (by omega)
 have g16:=wCells_v (w:=s t) (i:=t - 16) (by omega)
 have g7:=wCells_v (w:=s t) (i:=t - 7) (by omega)
 have g2:=wCells_v (w:=s t) (i:=t - 2) (by omega)
 generalize (s t).getD (t - 15) 0=x15 at *
 generalize (s t).getD (t - 16) 0=x16 at *
 generalize (s t).getD (t - 7) 0=x7 at *
 generalize (s t).getD (t - 2) 0=x2 at *
 simp only [s0,s1] at hs
 (refine goX4 (nn h1 (nn h2 (nn hl2 (nn f15 (nn f16 (nn f7 (nn f2 (nn g15 (nn g16 (nn g7 g2)))))))))) (r7 _) (r18 _) (r17 _) (r19 _) ?_; (repeat' (with_reducible apply Br.mk<;>intro _)))
 simp only [Nat.mul_one,hs]
 refine ⟨_,_,?_,stleB rfl,t + 1,by omega,rfl,rfl⟩
 omega
end Go.Proofs.YtclmdhceceacoaaGreatDoor
