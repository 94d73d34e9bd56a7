/-
 Wire: integers read.
 Conditions: of each contract as it says.
-/
import Derived.Test.YtailhmffljoojaaW0
import Derived.Test.YtailhmffljoojaaT52
set_option linter.unusedSimpArgs false
namespace Go.Proofs.Ytailhmffljoojaa.Wire
open Go Go.E2 CW
set_option maxHeartbeats 4000000
abbrev eI (n:Int):D:=.int .i64 n
@[go_sem] theorem z79 (l:List Int):(l.map eI).all (za 1)=true:=by simp [List.all_map,Function.comp_def,za,D.cells,D.one]
end Go.Proofs.Ytailhmffljoojaa.Wire
namespace Go.Proofs.Ytailhmffljoojaa.Wire
open Go Go.E2 CW
set_option maxHeartbeats 4000000
theorem z1w {z:Nat} (h:¬ z<128):z / 128<z:=Nat.div_lt_self (by omega) (by decide)
theorem z6w {z:Nat} (h:z<256):[D.int .u8 ((z:Nat):Int)]=[UInt8.ofNat z].map eB:=by
 show _=[D.int .u8 _]
 rw [zoh h]
theorem Int_T (n:Int) (hn:i64 n) (σ:List Hp) (G:Gh):zam Try.prog f_zz63 ([.int .i64 n].map .d) σ G fun r σ' G'=>σ'=σ∧∃ x,r=.d x∧GV 1 G' x ((intB n).map eB)∧GTo .nilS x G G':=by
 refine zbv fol zz63_cp ?_
 obtain ⟨x,y,w1,w2,w3⟩:=z6v hn
 have hl:=intB_len hn
 have hz:=zvf hn
 have hm:=z8
 refine goS trivial ?_
 refine goR (nn w1 (nn w2 w3)) ?_
 refine W.loop (fun m st=>∃ z p x G1,m=z∧z<18446744073709551616∧intB n=p++leb z∧GV 1 G1 x (p.map eB)∧GTo .nilS x G G1 ∧
  st=(E [(3,.d (.int .u64 ((z:Nat):Int))),(4,.d x)],HB [],σ,G1))
  ⟨_,_,zgr,zig n,[],.nilS,G,rfl,hz,rfl,.nil,GTo.refl _ _,rfl⟩ ?_
 rintro m st ⟨z,p,x,G1,rfl,hz,hp,hx,hto,rfl⟩
 have hpl:p.length≤10:=by rw [hp,List.length_append] at hl;omega
 by_cases h1:(127:Int)<((m:Nat):Int)
 case pos =>
  have h2:¬ m<128:=by omega
  have w4:=zxq m
  have w5:=z1v m
  rw [zve h2] at hp
  rcases hx.shape with rfl|⟨b0,n0,c0,rfl⟩
  all_goals
   (refine goX (nn h1 w4) ?_;(repeat' (with_reducible apply Br.mk<;>intro _)))
   refine zcg hx (zcb (es:=[eB (UInt8.ofNat (m % 128+128))]) rfl) rfl rfl rfl (by rw [List.length_map,z8];show (_+1) * 1≤_;omega) fun x' G2 hg hto2=>?_
   have hg:GV 1 G2 x' ((p++[UInt8.ofNat (m % 128+128)]).map eB):=by rw [List.map_append];exact hg
   rcases hg.shape with rfl|⟨b',n',cap',rfl⟩
   all_goals
    refine goS trivial ?_
    refine goR w5 ?_
    refine ⟨_,_,?_,zgr,m / 128,p++[UInt8.ofNat (m % 128+128)],_,G2,rfl,by omega,by rw [hp,List.append_assoc];rfl,hg,hto.trans hto2,rfl⟩
    exact z1w h2
 case neg =>
  have h2:m<128:=by omega
  rw [zrv h2] at hp
  rcases hx.shape with rfl|⟨b0,n0,c0,rfl⟩
  all_goals
   (refine goX h1 ?_;(repeat' (with_reducible apply Br.mk<;>intro _)))
   refine zcg hx (zcb (es:=[.int .u8 ((m:Nat):Int)]) rfl) rfl rfl rfl (by rw [List.length_map,z8];show (_+1) * 1≤_;omega) fun x' G2 hg hto2=>?_
   have hg:GV 1 G2 x' ((intB n).map eB):=by rw [hp,List.map_append,← z6w (by omega)];exact hg
   rcases hg.shape with rfl|⟨b',n',cap',rfl⟩
   all_goals
    refine goS trivial ?_
    refine goR trivial ?_
    exact Fin.eq rfl ⟨rfl,_,rfl,hg,hto.trans hto2⟩
theorem Int_ok (n:Int) (hn:i64 n):za2 Try.prog f_zz63 [.int .i64 n] (·=.d (.list ((intB n).map eB))) :=
 za2.of_deep ((Int_T n hn [] noGh).mono fun r σ' G' ⟨h1,x,h2,h3,_⟩=>⟨h1,_,by rw [h2];exact .d _ _ h3.dr,rfl⟩)
theorem len_i64 {n:Nat} (h:n≤1000000):i64 (n:Int):=⟨by omega,by omega⟩
theorem take_flat {l:List Int} {k:Nat} (h:k<l.length):((l.take (k+1)).map intB).flatten=((l.take k).map intB).flatten++intB l[k]:=by
 rw [List.take_succ_eq_append_getElem h,List.map_append,List.flatten_append];simp
end Go.Proofs.Ytailhmffljoojaa.Wire
