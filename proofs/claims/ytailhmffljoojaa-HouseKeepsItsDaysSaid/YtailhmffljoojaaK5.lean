/-
 Layer 52 (house),continued: the header of an entry.
 Conditions: of each contract as it says.
-/
import Derived.Test.YtailhmffljoojaaK4
import Derived.Test.YtailhmffljoojaaW1a
set_option linter.unusedSimpArgs false
namespace Go.Proofs.Ytailhmffljoojaa
open Go Go.E2 C22 C52
set_option maxHeartbeats 1000000
abbrev eJ (n:Int):D:=.int .i64 n
theorem z1o (l:List Int):(l.map eJ).all (za 1)=true:=by simp [List.all_map,Function.comp_def,za,D.cells,D.one]
theorem zxd {l:List Int} {n cap k:Nat} {cs:List D} (h:Row 1 n cap (l.map eJ) cs) (hk:k<l.length):(cs.drop (k * 1)).head?=some (.int .i64 l[k]):=by
 have:=h.get1 (i:=k) (j:=0) (by simpa using hk) (by omega)
 rw [Nat.add_zero] at this
 simpa [D.cells] using this
theorem zt0 (y:D) (l:List Int) (h0:l≠[]) (hl:l.length≤1000000) (hi:∀ n∈l,CW.i64 n) :
 zt Try.prog f_zz50 [y,.fn f_zz63] [SlA 1 y (l.map eJ)] (fun r post=>∃ z,r=.d z∧post=[SlA 1 y (l.map eJ),SlA 1 z ((CW.intsB l).map eB)]):=by
 refine zj fol zz50_cp fun R G σ hs=>?_
 have hs:Sep (SlA 1 y (l.map eJ)::R) G:=hs
 have hll:=CW.intB_len (Wire.len_i64 hl)
 obtain ⟨by_,capy,cy,hy,_,_⟩:=(Sep.gv hs).inv (by simpa using h0)
 rw [List.length_map] at hy
 subst hy
 refine goS trivial ?_
 refine goR trivial ?_
 apply z8w (Wire.Int_T _ (Wire.len_i64 hl) _ _)
 focus (simp -dsimp (disch:=first|omega|(simp only [go_sem];omega)) only [go_sem,seval,Nat.reduceEqDiff,Nat.reduceLeDiff]<;>fail)
 focus (simp -dsimp (disch:=first|omega|(simp only [go_sem];omega)) only [go_sem,seval,Nat.reduceEqDiff,Nat.reduceLeDiff]<;>rfl)
 rintro _ G1 ⟨x,rfl,hx,hto⟩
 have hs1:=Sep.grow (Sep.slNil (sz:=1) hs) hto hx
 refine goS trivial ?_
 refine goR trivial ?_
 refine W.loop (fun m st=>∃ k x G1,k≤l.length∧m=l.length - k∧Sep (SlA 1 x ((CW.intB l.length++((l.take k).map CW.intB).flatten).map eB)::SlA 1 (.gs by_ 0 l.length capy) (l.map eJ)::R) G1 ∧
  st=(E [(1,.d (.fn f_zz63)),(5,.d x),(11,.d (.gs by_ 0 l.length capy)),(12,.d (.int .i64 l.length)),(13,.d (.int .i64 k))],HB [],σ,G1))
  ⟨_,_,zgr,0,x,G1,by omega,rfl,by simpa using hs1,rfl⟩ ?_
 clear hs1 hto hx x G1
 rintro m st ⟨k,x,G1,hk,rfl,hs1,rfl⟩
 have hx:=Sep.gv hs1
 by_cases h1:(k:Int)<(l.length:Int)
 case neg =>
  obtain rfl:k=l.length:=by omega
  rw [List.take_length] at hs1
  rcases hx.shape with rfl|⟨b0,n0,c0,rfl⟩
  all_goals
   (refine goX h1 ?_;(repeat' (with_reducible apply Br.mk<;>intro _)))
   exact Fin.eq rfl ⟨rfl,_,⟨_,rfl,rfl⟩,hs1.swap⟩
 have hk':k<l.length:=by omega
 have hik:=hi _ (List.getElem_mem hk')
 have hil:=CW.intB_len hik
 have hio:=Wire.Int_ok _ hik
 have hfl:=CW.ints_len (l:=l.take k) fun n hn=>hi n (List.mem_of_mem_take hn)
 rw [List.length_take] at hfl
 obtain ⟨b',cap',cs',hy',hbx',hrow'⟩:=(Sep.gv hs1.tail).inv (by simpa using h0)
 rw [List.length_map] at hy' hrow'
 cases hy'
 have hread:=zxd hrow' hk'
 rcases hx.shape with rfl|⟨b0,n0,c0,rfl⟩
 all_goals
  (refine zd5 (nn h1 (nn hbx' hread)) (hio) ?_;(repeat' (with_reducible apply Br.mk<;>intro _)))
  refine zcg hx (zcb (zu2 (CW.intB l[k]))) rfl (zu2 _) rfl (by simp only [List.length_map,List.length_append,z8];show _ * 1≤_;omega) fun x' G2 hg hto2=>?_
  have hs2:=Sep.grow hs1 hto2 hg
  rw [← List.map_append,List.append_assoc,← Wire.take_flat hk'] at hs2
  rcases hg.shape with rfl|⟨b',n',cap',rfl⟩
  all_goals
   refine goS trivial ?_
   refine goR trivial ?_
   exact zgg.mk ⟨l.length - (k+1),_,by omega,zgr,k+1,_,G2,hk',rfl,hs2,rfl⟩
theorem zt1 (y:D) (l:List Int) (h0:l≠[]) (hl:l.length≤1000000) (hi:∀ n∈l,CW.i64 n) :
 zt Try.prog f_zz61 [y] [SlA 1 y (l.map eJ)] (fun r post=>∃ z,r=.d z∧post=[SlA 1 y (l.map eJ),SlA 1 z ((CW.intsB l).map eB)]):=by
 refine zj fol zz61_cp fun R G σ hs=>?_
 refine goS trivial ?_
 refine goR trivial ?_
 (refine goM (zt0 y l h0 hl hi) (hs) ?_)
 rintro _ _ G2 ⟨z,rfl,rfl⟩ hs2
 refine goS trivial ?_
 refine goR trivial ?_
 exact Fin.eq rfl ⟨rfl,_,⟨_,rfl,rfl⟩,hs2⟩
def hdr (e:En) (t:Nat):List Int:=[e.r.k,e.r.o,e.r.n,e.r.p,e.keep,e.til,e.tag,(e.b.length:Int)]++(List.range (t - 1)).map fun i=>((i+1:Nat):Int)
def Sml (e:En):Prop:=Pos e.r∧(0≤e.keep∧e.keep≤1000000)∧(0≤e.til∧e.til≤1000000)∧(0≤e.tag∧e.tag<2147483647)∧e.b.length≤432
theorem zdm {n:Int} {k:Nat} (h0:0≤n) (h:2 * n<((128 ^ (k+1):Nat):Int)):(CW.intB n).length≤k+1:=by
 unfold CW.intB
 refine CW.leb_len k _ ?_
 unfold CW.zig
 rw [if_neg (by omega)]
 omega
theorem zde (l:List Int) (h:∀ n∈l,0≤n∧n<64):((l.map CW.intB).flatten).length≤l.length:=by
 induction l with
 | nil=>simp
 | cons n l ih =>
  have h1:=h n List.mem_cons_self
  have h2:=zdm (n:=n) (k:=0) h1.1 (by omega)
  have h3:=ih fun m hm=>h m (List.mem_cons_of_mem _ hm)
  rw [List.map_cons,List.flatten_cons,List.length_append,List.length_cons]
  omega
theorem zxe {e:En} {t:Nat} (h:Sml e) (ht:t≤9) (h1:1≤t):(CW.intsB (hdr e t)).length≤54:=by
 obtain ⟨⟨p1,p2,p3,p4⟩,p5,p6,p7,p8⟩:=h
 have a0:=zdm (n:=(hdr e t).length) (k:=0) (by omega) (by simp [hdr];omega)
 have a1:=zdm (n:=e.r.k) (k:=0) (by omega) (by omega)
 have a2:=zdm (n:=e.r.o) (k:=5) (by omega) (by omega)
 have a3:=zdm (n:=e.r.n) (k:=5) (by omega) (by omega)
 have a4:=zdm (n:=e.r.p) (k:=0) (by omega) (by omega)
 have a5:=zdm (n:=e.keep) (k:=2) (by omega) (by omega)
 have a6:=zdm (n:=e.til) (k:=2) (by omega) (by omega)
 have a7:=zdm (n:=e.tag) (k:=4) (by omega) (by omega)
 have a8:=zdm (n:=e.b.length) (k:=1) (by omega) (by omega)
 have a9:=zde ((List.range (t - 1)).map fun i=>((i+1:Nat):Int)) (by
  intro n hn
  obtain ⟨i,hi,rfl⟩:=List.mem_map.1 hn
  rw [List.mem_range] at hi
  omega)
 rw [List.length_map,List.length_range] at a9
 unfold CW.intsB
 rw [List.length_append]
 have:(((hdr e t).map CW.intB).flatten).length=(CW.intB e.r.k).length+(CW.intB e.r.o).length+(CW.intB e.r.n).length+(CW.intB e.r.p).length+(CW.intB e.keep).length+(CW.intB e.til).length+(CW.intB e.tag).length+(CW.intB e.b.length).length+(((List.range (t - 1)).map fun i=>((i+1:Nat):Int)).map CW.intB).flatten.length:=by
  unfold hdr
  simp only [List.map_append,List.flatten_append,List.map_cons,List.map_nil,List.flatten_cons,List.flatten_nil,List.length_append,List.length_nil]
  omega
 omega
theorem zxf {e:En} {t:Nat} (h:Sml e) (ht:t≤9):∀ n∈hdr e t,CW.i64 n:=by
 obtain ⟨⟨p1,p2,p3,p4⟩,p5,p6,p7,p8⟩:=h
 intro n hn
 unfold hdr at hn
 simp only [List.mem_append,List.mem_cons,List.not_mem_nil,or_false,List.mem_map,List.mem_range] at hn
 unfold CW.i64
 rcases hn with (rfl|rfl|rfl|rfl|rfl|rfl|rfl|rfl)|⟨i,hi,rfl⟩<;>omega
theorem zxg (t:Nat):(aL t).drop 1=((List.range (t - 1)).map fun i=>((i+1:Nat):Int)).map eJ:=by
 apply List.ext_getElem
 · simp [aL]
 · intro i h1 h2
   simp [aL]
theorem zl5 (e:En) (x:D) (t:Nat) (ht:t≤9) (h1:2≤t) (hsm:Sml e) :
 zt Try.prog f_zz53 [eHd e x] [SlA 1 x (aL t)] (fun r post=>∃ h:Str,h≠[]∧h.length≤55∧r=.d (.str h)∧post=[SlA 1 x (aL t)]):=by
 refine zj fol zz53_cp fun R G σ hs=>?_
 have hs:Sep (SlA 1 x (aL t)::R) G:=hs
 obtain ⟨bx,cap,cs,hx,hbx,hrow⟩:=(Sep.gv hs).inv (by intro h;have:=congrArg List.length h;rw [zbb] at this;simp at this;omega)
 rw [zbb] at hx hrow
 subst hx
 have hfit:=hrow.fit
 have hc1:(cap=1)=False:=eq_false (by omega)
 refine goS trivial ?_
 refine goR hc1 ?_
 refine zat fun g hg=>?_
 have h8:flat [D.int .i64 e.r.k,D.int .i64 e.r.o,D.int .i64 e.r.n,D.int .i64 e.r.p,D.int .i64 e.keep,D.int .i64 e.til,D.int .i64 e.tag,D.int .i64 e.b.length]=[D.int .i64 e.r.k,D.int .i64 e.r.o,D.int .i64 e.r.n,D.int .i64 e.r.p,D.int .i64 e.keep,D.int .i64 e.til,D.int .i64 e.tag,D.int .i64 e.b.length]:=rfl
 have hs1:=Sep.toSl (Sep.new hg hs) (Row.mk' (sz:=1) (n:=8) (cap:=8) (es:=[D.int .i64 e.r.k,D.int .i64 e.r.o,D.int .i64 e.r.n,D.int .i64 e.r.p,D.int .i64 e.keep,D.int .i64 e.til,D.int .i64 e.tag,D.int .i64 e.b.length]) (rest:=[]) rfl rfl (Nat.le_refl _) (Nat.le_of_eq rfl))
 rw [List.append_nil] at hs1
 generalize G.set g (some (flat [D.int .i64 e.r.k,D.int .i64 e.r.o,D.int .i64 e.r.n,D.int .i64 e.r.p,D.int .i64 e.keep,D.int .i64 e.til,D.int .i64 e.tag,D.int .i64 e.b.length]))=G1 at hs1 ⊢
 obtain ⟨bx',cap',cs',hx',hbx',hrow'⟩:=(Sep.gv hs1.tail).inv (by intro h;have:=congrArg List.length h;rw [zbb] at this;simp at this;omega)
 rw [zbb] at hx' hrow'
 cases hx'
 have hv:zbc G1 1 (.gs bx 1 (t - 1) (cap - 1))=some (t - 1,flat ((aL t).drop 1)):=hrow'.viewT (i:=1) hbx' (by omega)
 rw [zxg] at hv
 refine goS trivial ?_
 try (repeat (first|(with_reducible first|refine W.seq ?_|refine W.block ?_|refine W.scope ?_)|((with_reducible first|refine W.reg ?_|refine W.skip ?_|refine W.exit ?_|refine W.ret ?_|refine W.ifc ?_);simp -dsimp (disch:=first|omega|(simp only [go_sem];omega)) only [go_sem,seval,Nat.reduceEqDiff,Nat.reduceLeDiff])))
 refine zcg (Sep.gv hs1) hv (by simp) (z1o _) rfl (by rw [z8];simp;omega) fun x' G2 hg2 hto=>?_
 have hs2:=Sep.grow hs1 hto hg2
 have hl:[D.int .i64 e.r.k,D.int .i64 e.r.o,D.int .i64 e.r.n,D.int .i64 e.r.p,D.int .i64 e.keep,D.int .i64 e.til,D.int .i64 e.tag,D.int .i64 e.b.length]++((List.range (t - 1)).map fun i=>((i+1:Nat):Int)).map eJ=(hdr e t).map eJ:=by simp [hdr]
 rw [hl] at hs2 hg2
 have hne:hdr e t≠[]:=by simp [hdr]
 have hle:(hdr e t).length≤1000000:=by simp [hdr];omega
 obtain ⟨bz,capz,cz,hz,_,_⟩:=hg2.inv (by simpa using hne)
 subst hz
 refine goS trivial ?_
 refine goR trivial ?_
 (refine goM (zt1 _ (hdr e t) hne hle (zxf hsm ht)) (hs2) ?_)
 rintro _ _ G3 ⟨z,rfl,rfl⟩ hs3
 have hs3:Sep (SlA 1 (.gs bz 0 ((hdr e t).map eJ).length capz) ((hdr e t).map eJ)::SlA 1 z ((CW.intsB (hdr e t)).map eB)::SlA 1 (.gs bx 0 t cap) (aL t)::R) G3:=hs3
 have hv3:=(Sep.gv hs3.tail).view
 have hfl:flat ((CW.intsB (hdr e t)).map eB)=(CW.intsB (hdr e t)).map eB:=zg4 _
 rw [hfl,List.length_map] at hv3
 have hby:=zqu hv3 (zdr _)
 have hln:=zxe hsm ht (by omega)
 have hlt:(CW.intsB (hdr e t)).length+1<4611686018427387904:=by omega
 refine goS hby ?_
 refine goR hby ?_
 exact Fin.eq rfl ⟨rfl,_,⟨_,by simp,by rw [List.length_cons];omega,rfl,rfl⟩,hs3.tail.tail⟩
end Go.Proofs.Ytailhmffljoojaa
