/-
 Layer 52 (house): a house zho its days.
 Conditions: of the contract as it says.
-/
import Derived.Test.YtailhmffljoojaaK13
set_option linter.unusedSimpArgs false
namespace Go.Proofs.Ytailhmffljoojaa
open Go Go.E2 C22 C52
set_option maxHeartbeats 2000000
abbrev z1m (n:Int):D:=.int .u16 n
abbrev eB8 (n:Int):D:=.int .u8 n
theorem ztw (a:Ask) (u v:List D) (tick:Int) (later kinds:List Int) (t0:0≤tick) (t1:tick<65536) (hl:∀ x∈later,0≤x∧x<65536) (hk:∀ x∈kinds,0≤x∧x<256) :
 za2 Try.prog f_zz10 [eA a u v,.int .u16 tick,.list (later.map z1m),.list (kinds.map eB8)] (·=.d (.bool true)):=by
 refine za2.of_deep (zbv fol zz10_cp ?_)
 have hs:Sep ([]++[]) noGh:=trivial
 refine goS trivial ?_
 refine goR trivial ?_
 (refine goM (zoc 14 (by omega) (by omega)) (hs) ?_)
 rintro _ _ G1 ⟨hb,pd,rfl,rfl⟩ hs1
 have hs1:Sep (HsA hb 14 1000 none::[]) G1:=hs1
 have hli:=ztv { a with kind:=1 } u v
 by_cases c1:a.b.length≤450∧u.length≤210∧v.length≤210
 case neg =>
  have e1:decide (({ a with kind:=1 }:Ask).b.length≤450∧u.length≤210∧v.length≤210)=false:=decide_eq_false c1
  rw [e1] at hli
  refine goS trivial ?_
  (refine zd5 trivial (hli) ?_;(repeat' (with_reducible apply Br.mk<;>intro _)))
  (refine goM (zex) ((show Sep ([]++(HsA hb 14 1000 none::[])) G1 from hs1)) ?_)
  rintro _ _ G2 ⟨rfl,rfl⟩ hs2
  refine goS trivial ?_
  refine goR trivial ?_
  exact Fin.eq rfl ⟨rfl,_,.refl _,rfl⟩
 have e1:decide (({ a with kind:=1 }:Ask).b.length≤450∧u.length≤210∧v.length≤210)=true:=decide_eq_true c1
 rw [e1] at hli
 by_cases c2:20<later.length
 · have c2':(20<(later.length:Int))=True:=eq_true (by omega)
   refine goS trivial ?_
   (refine zd5 c2' (hli) ?_;(repeat' (with_reducible apply Br.mk<;>intro _)))
   (refine goM (zex) ((show Sep ([]++(HsA hb 14 1000 none::[])) G1 from hs1)) ?_)
   rintro _ _ G2 ⟨rfl,rfl⟩ hs2
   refine goS trivial ?_
   refine goR trivial ?_
   exact Fin.eq rfl ⟨rfl,_,.refl _,rfl⟩
 have c2':(20<(later.length:Int))=False:=eq_false (by omega)
 by_cases c3:Pos a.r
 case neg =>
  refine goS trivial ?_
  (refine zd5 c2' (hli) ?_;(repeat' (with_reducible apply Br.mk<;>intro _)))
  (refine goM (z6p hb 14 1000 none tick { a with kind:=1 } u v t0 (by omega) (by omega) (by omega) (by omega) ⟨Int.le_refl 1,by show (1:Int)≤4;omega⟩ c3) (hs1) ?_)
  rintro _ _ G2 ⟨rfl,rfl⟩ hs2
  refine goS trivial ?_
  refine goR trivial ?_
  (refine goM (zex) ((show Sep ([]++_) G2 from hs2)) ?_)
  rintro _ _ G3 ⟨rfl,rfl⟩ hs3
  refine goS trivial ?_
  refine goR trivial ?_
  exact Fin.eq rfl ⟨rfl,_,.refl _,rfl⟩
 obtain ⟨pe,hpe⟩:∃ pe,pe=ze7 14 none tick { a with kind:=1 }:=⟨_,rfl⟩
 have hdp:=ze8 hb 14 1000 none tick { a with kind:=1 } u v t0 (by omega) (by omega) (by omega) (by omega) rfl c3 (fun _=>rfl)
 have hpn:zas tick none=none:=rfl
 rw [hpn,← hpe] at hdp
 by_cases c4:pe=0
 case neg =>
  have c4':(pe=0)=False:=eq_false c4
  refine goS trivial ?_
  (refine zd5 c2' (hli) ?_;(repeat' (with_reducible apply Br.mk<;>intro _)))
  (refine goM (hdp) (hs1) ?_)
  rintro _ _ G2 ⟨rfl,rfl⟩ hs2
  refine goS trivial ?_
  refine goR c4' ?_
  (refine goM (zex) ((show Sep ([]++_) G2 from hs2)) ?_)
  rintro _ _ G3 ⟨rfl,rfl⟩ hs3
  refine goS trivial ?_
  refine goR trivial ?_
  exact Fin.eq rfl ⟨rfl,_,.refl _,rfl⟩
 subst c4
 rw [if_pos rfl] at hdp
 have hE:enA { a with kind:=1 }=enA a:=rfl
 rw [hE] at hdp
 refine goS trivial ?_
 (refine zd5 c2' (hli) ?_;(repeat' (with_reducible apply Br.mk<;>intro _)))
 (refine goM (hdp) (hs1) ?_)
 rintro _ _ G2 ⟨rfl,rfl⟩ hs2
 have hs2:Sep (HsA hb 14 (1000+200) (some (enA a))::[]) G2:=hs2
 refine goS trivial ?_
 refine goR trivial ?_
 refine W.loop (fun z st=>∃ (k:Nat) (nw:Int) (dr:Bool) (o:Option En) (b18:Blk) (G:Gh),k≤later.length∧z=later.length - k∧0≤nw∧nw≤1000000 ∧
  (dr=false∧o=some (enA a)∨dr=false∧o=none∧a.til<nw∨dr=true∧o=none)∧Sep (HsA hb 14 (1200+200 * (k:Int)) o::[]) G ∧
  st=(E [(3,.d (.list (kinds.map eB8))),(4,.ptr 0 4 1 0),(9,.d (.gp hb 0)),(12,.d (.int .i64 nw)),(13,.d (.bool dr)),(45,.d (.list (later.map z1m))),(46,.d (.int .i64 later.length)),(47,.d (.int .i64 k))],HB [(4,⟨1,some [.int .i64 1,.int .i64 a.r.k,.int .i64 a.r.o,.int .i64 a.r.n,.int .i64 a.r.p,.int .i64 a.keep,.int .i64 a.til,.int .i64 a.tag,.str a.b,.int .i64 a.frm,.int .i64 a.cnt,.int .i64 a.wid,.list u,.list v]⟩),(18,b18)],[],G))
  ⟨_,_,zby (zhg [(4,_)] [18] rfl).symm,0,tick,false,some (enA a),_,G2,by omega,rfl,t0,by omega,.inl ⟨rfl,rfl⟩,Sep.hs_mono (by omega) hs2,rfl⟩ ?_
 rintro z st ⟨k,now,dr,o,b18,G3,hkl,rfl,n0,n1,hinv,hs3,rfl⟩
 refine goR trivial ?_
 refine zdt (fun g1=>?_) (fun g1=>?_)
 · have hk':k<later.length:=by omega
   obtain ⟨x,hx⟩:∃ x,x=later[k]:=⟨_,rfl⟩
   have hx0:=hl x (by rw [hx];exact List.getElem_mem hk')
   obtain ⟨nw,hnw,m0,m1⟩:∃ nw:Int,min (now+x) 1000000=nw∧0≤nw∧nw≤1000000:=⟨_,rfl,by omega,by omega⟩
   have hnn:now≤nw:=by omega
   have hwrap:IntKind.i64.wrap x=x:=wrap_i64 (by omega) (by omega)
   have hpos:Pos (enA a).r:=c3
   have hmb:(1200+200 * (k:Int))≤900000:=by omega
   have hcast:(1200+200 * ((k+1:Nat):Int))=1200+200 * (k:Int)+200:=by omega
   have hkd:k<kinds.length→∃ y,y=kinds[k]?.getD 0∧0≤y∧y<256∧∀ h:k<kinds.length,kinds[k]=y:=fun h=>by
    have:=hk _ (List.getElem_mem h)
    exact ⟨_,rfl,by simpa [h] using this.1,by simpa [h] using this.2,fun h=>by simp [h]⟩
   have hls:(later.map z1m).all (za 1)=true:=by simp [List.all_map,Function.comp_def,za,D.cells,D.one]
   have hks:(kinds.map eB8).all (za 1)=true:=by simp [List.all_map,Function.comp_def,za,D.cells,D.one]
   have hsit:(zas nw o=none∧dr=true)∨(zas nw o=none∧dr=false∧(nw≤a.til)=False)∨(zas nw o=some (enA a)∧dr=false∧(nw≤a.til)=True):=by
    rcases hinv with ⟨rfl,rfl⟩|⟨rfl,rfl,h⟩|⟨rfl,rfl⟩
    · by_cases h:a.til<nw
      · exact .inr (.inl ⟨by unfold zas;simp only;exact if_pos h,rfl,eq_false (by omega)⟩)
      · exact .inr (.inr ⟨by unfold zas;simp only;exact if_neg h,rfl,eq_true (by omega)⟩)
    · exact .inr (.inl ⟨rfl,rfl,eq_false (by omega)⟩)
    · exact .inl ⟨rfl,rfl⟩
   clear hinv
   have hx2:later[k]=x:=hx.symm
   by_cases b1:k<kinds.length
   case neg =>
    have hkk:((k:Int)<(kinds.length:Int))=False:=eq_false (by omega)
    clear hkd
    rcases hsit with ⟨hps,rfl⟩|⟨hps,rfl,ht⟩|⟨hps,rfl,ht⟩
    · have hd:=zcj hb 14 (1200+200 * (k:Int)) o nw ⟨2,a.r,0,0,0,[],0,a.b.length,0⟩ m0 m1 (by omega) (by omega) (by omega) rfl c3
      have hge:zgh none ⟨2,a.r,0,0,0,[],0,a.b.length,0⟩=(8,[]):=by unfold zgh;rw [if_neg (by simp)]
      rw [hps,hge] at hd
      (refine goX (nn hls (nn hks (nn hx2 (nn hwrap (nn hnw hkk))))) ?_;(repeat' (with_reducible apply Br.mk<;>intro _)))
      (refine goM (hd) (hs3) ?_)
      rintro _ _ G4 ⟨rfl,rfl⟩ hs4
      refine goS trivial ?_
      (refine goX trivial ?_;(repeat' (with_reducible apply Br.mk<;>intro _)))
      exact zgg.mk ⟨later.length - (k+1),_,by omega,zby rfl,k+1,nw,_,_,_,_,hk',rfl,m0,m1,.inr (.inr ⟨rfl,rfl⟩),Sep.hs_mono (by omega) hs4,rfl⟩
    · have hd:=zcj hb 14 (1200+200 * (k:Int)) o nw ⟨2,a.r,0,0,0,[],0,a.b.length,0⟩ m0 m1 (by omega) (by omega) (by omega) rfl c3
      have hge:zgh none ⟨2,a.r,0,0,0,[],0,a.b.length,0⟩=(8,[]):=by unfold zgh;rw [if_neg (by simp)]
      rw [hps,hge] at hd
      (refine goX (nn hls (nn hks (nn hx2 (nn hwrap (nn hnw (nn ht hkk)))))) ?_;(repeat' (with_reducible apply Br.mk<;>intro _)))
      (refine goM (hd) (hs3) ?_)
      rintro _ _ G4 ⟨rfl,rfl⟩ hs4
      refine goS trivial ?_
      (refine goX trivial ?_;(repeat' (with_reducible apply Br.mk<;>intro _)))
      exact zgg.mk ⟨later.length - (k+1),_,by omega,zby rfl,k+1,nw,_,_,_,_,hk',rfl,m0,m1,.inr (.inl ⟨rfl,rfl,(by have:=of_eq_false ht;omega)⟩),Sep.hs_mono (by omega) hs4,rfl⟩
    · have hd:=zcj hb 14 (1200+200 * (k:Int)) o nw ⟨2,a.r,0,0,0,[],0,a.b.length,0⟩ m0 m1 (by omega) (by omega) (by omega) rfl c3
      have hge:zgh (some (enA a)) ⟨2,a.r,0,0,0,[],0,a.b.length,0⟩=(0,a.b):=by unfold zgh;simp only;rw [if_neg (by simp),if_neg (by simp [enA]),if_neg (by simp [enA])];simp [enA]
      rw [hps,hge] at hd
      (refine goX (nn hls (nn hks (nn hx2 (nn hwrap (nn hnw (nn ht hkk)))))) ?_;(repeat' (with_reducible apply Br.mk<;>intro _)))
      (refine goM (hd) (hs3) ?_)
      rintro _ _ G4 ⟨rfl,rfl⟩ hs4
      refine goS trivial ?_
      (refine goX trivial ?_;(repeat' (with_reducible apply Br.mk<;>intro _)))
      exact zgg.mk ⟨later.length - (k+1),_,by omega,zby rfl,k+1,nw,_,_,_,_,hk',rfl,m0,m1,.inl ⟨rfl,rfl⟩,Sep.hs_mono (by omega) hs4,rfl⟩
   obtain ⟨y,_,y0,y1,hy'⟩:=hkd b1
   have hy:=hy' b1
   have hkk:((k:Int)<(kinds.length:Int))=True:=eq_true (by omega)
   clear hkd
   by_cases b2:y.tmod 3=0
   · have hmd:(y.tmod 3=0)=True:=eq_true b2
     rcases hsit with ⟨hps,rfl⟩|⟨hps,rfl,ht⟩|⟨hps,rfl,ht⟩
     · have hd:=zdz hb 14 (1200+200 * (k:Int)) o nw ⟨3,a.r,0,0,0,[],0,0,0⟩ m0 m1 (by omega) (by omega) (by omega) rfl c3
       have hde:zed none nw ⟨3,a.r,0,0,0,[],0,0,0⟩=(8,none):=rfl
       rw [hps,hde] at hd
       (refine goX (nn hls (nn hks (nn hx2 (nn hwrap (nn hnw (nn hkk (nn hy hmd))))))) ?_;(repeat' (with_reducible apply Br.mk<;>intro _)))
       (refine goM (hd) (hs3) ?_)
       rintro _ _ G4 ⟨rfl,rfl⟩ hs4
       refine goS trivial ?_
       (refine goX trivial ?_;(repeat' (with_reducible apply Br.mk<;>intro _)))
       exact zgg.mk ⟨later.length - (k+1),_,by omega,zby rfl,k+1,nw,_,_,_,_,hk',rfl,m0,m1,.inr (.inr ⟨rfl,rfl⟩),Sep.hs_mono (by omega) hs4,rfl⟩
     · have hd:=zdz hb 14 (1200+200 * (k:Int)) o nw ⟨3,a.r,0,0,0,[],0,0,0⟩ m0 m1 (by omega) (by omega) (by omega) rfl c3
       have hde:zed none nw ⟨3,a.r,0,0,0,[],0,0,0⟩=(8,none):=rfl
       rw [hps,hde] at hd
       (refine goX (nn hls (nn hks (nn hx2 (nn hwrap (nn hnw (nn ht (nn hkk (nn hy hmd)))))))) ?_;(repeat' (with_reducible apply Br.mk<;>intro _)))
       (refine goM (hd) (hs3) ?_)
       rintro _ _ G4 ⟨rfl,rfl⟩ hs4
       refine goS trivial ?_
       (refine goX trivial ?_;(repeat' (with_reducible apply Br.mk<;>intro _)))
       exact zgg.mk ⟨later.length - (k+1),_,by omega,zby rfl,k+1,nw,_,_,_,_,hk',rfl,m0,m1,.inr (.inl ⟨rfl,rfl,(by have:=of_eq_false ht;omega)⟩),Sep.hs_mono (by omega) hs4,rfl⟩
     · have hd:=zdz hb 14 (1200+200 * (k:Int)) o nw ⟨3,a.r,0,0,0,[],0,0,0⟩ m0 m1 (by omega) (by omega) (by omega) rfl c3
       rw [hps] at hd
       by_cases hkp:nw≤a.keep
       · have hde:zed (some (enA a)) nw ⟨3,a.r,0,0,0,[],0,0,0⟩=(19,some (enA a)):=by unfold zed;simp only;rw [if_neg (by simp [enA]),if_pos (show nw≤(enA a).keep from hkp)]
         have hkp':(a.keep<nw)=False:=eq_false (by omega)
         rw [hde] at hd
         (refine goX (nn hls (nn hks (nn hx2 (nn hwrap (nn hnw (nn ht (nn hkk (nn hy hmd)))))))) ?_;(repeat' (with_reducible apply Br.mk<;>intro _)))
         (refine goM (hd) (hs3) ?_)
         rintro _ _ G4 ⟨rfl,rfl⟩ hs4
         refine goS trivial ?_
         (refine goX hkp' ?_;(repeat' (with_reducible apply Br.mk<;>intro _)))
         exact zgg.mk ⟨later.length - (k+1),_,by omega,zby rfl,k+1,nw,_,_,_,_,hk',rfl,m0,m1,.inl ⟨rfl,rfl⟩,Sep.hs_mono (by omega) hs4,rfl⟩
       · have hde:zed (some (enA a)) nw ⟨3,a.r,0,0,0,[],0,0,0⟩=(0,none):=by unfold zed;simp only;rw [if_neg (by simp [enA]),if_neg (show ¬ nw≤(enA a).keep from hkp)]
         have hkp':(a.keep<nw)=True:=eq_true (by omega)
         rw [hde] at hd
         (refine goX (nn hls (nn hks (nn hx2 (nn hwrap (nn hnw (nn ht (nn hkk (nn hy hmd)))))))) ?_;(repeat' (with_reducible apply Br.mk<;>intro _)))
         (refine goM (hd) (hs3) ?_)
         rintro _ _ G4 ⟨rfl,rfl⟩ hs4
         refine goS trivial ?_
         (refine goX hkp' ?_;(repeat' (with_reducible apply Br.mk<;>intro _)))
         exact zgg.mk ⟨later.length - (k+1),_,by omega,zby rfl,k+1,nw,_,_,_,_,hk',rfl,m0,m1,.inr (.inr ⟨rfl,rfl⟩),Sep.hs_mono (by omega) hs4,rfl⟩
   · have hmd:(y.tmod 3=0)=False:=eq_false b2
     rcases hsit with ⟨hps,rfl⟩|⟨hps,rfl,ht⟩|⟨hps,rfl,ht⟩
     · have hd:=zcj hb 14 (1200+200 * (k:Int)) o nw ⟨2,a.r,0,0,0,[],0,a.b.length,0⟩ m0 m1 (by omega) (by omega) (by omega) rfl c3
       have hge:zgh none ⟨2,a.r,0,0,0,[],0,a.b.length,0⟩=(8,[]):=by unfold zgh;rw [if_neg (by simp)]
       rw [hps,hge] at hd
       (refine goX (nn hls (nn hks (nn hx2 (nn hwrap (nn hnw (nn hkk (nn hy hmd))))))) ?_;(repeat' (with_reducible apply Br.mk<;>intro _)))
       (refine goM (hd) (hs3) ?_)
       rintro _ _ G4 ⟨rfl,rfl⟩ hs4
       refine goS trivial ?_
       (refine goX trivial ?_;(repeat' (with_reducible apply Br.mk<;>intro _)))
       exact zgg.mk ⟨later.length - (k+1),_,by omega,zby rfl,k+1,nw,_,_,_,_,hk',rfl,m0,m1,.inr (.inr ⟨rfl,rfl⟩),Sep.hs_mono (by omega) hs4,rfl⟩
     · have hd:=zcj hb 14 (1200+200 * (k:Int)) o nw ⟨2,a.r,0,0,0,[],0,a.b.length,0⟩ m0 m1 (by omega) (by omega) (by omega) rfl c3
       have hge:zgh none ⟨2,a.r,0,0,0,[],0,a.b.length,0⟩=(8,[]):=by unfold zgh;rw [if_neg (by simp)]
       rw [hps,hge] at hd
       (refine goX (nn hls (nn hks (nn hx2 (nn hwrap (nn hnw (nn ht (nn hkk (nn hy hmd)))))))) ?_;(repeat' (with_reducible apply Br.mk<;>intro _)))
       (refine goM (hd) (hs3) ?_)
       rintro _ _ G4 ⟨rfl,rfl⟩ hs4
       refine goS trivial ?_
       (refine goX trivial ?_;(repeat' (with_reducible apply Br.mk<;>intro _)))
       exact zgg.mk ⟨later.length - (k+1),_,by omega,zby rfl,k+1,nw,_,_,_,_,hk',rfl,m0,m1,.inr (.inl ⟨rfl,rfl,(by have:=of_eq_false ht;omega)⟩),Sep.hs_mono (by omega) hs4,rfl⟩
     · have hd:=zcj hb 14 (1200+200 * (k:Int)) o nw ⟨2,a.r,0,0,0,[],0,a.b.length,0⟩ m0 m1 (by omega) (by omega) (by omega) rfl c3
       have hge:zgh (some (enA a)) ⟨2,a.r,0,0,0,[],0,a.b.length,0⟩=(0,a.b):=by unfold zgh;simp only;rw [if_neg (by simp),if_neg (by simp [enA]),if_neg (by simp [enA])];simp [enA]
       rw [hps,hge] at hd
       (refine goX (nn hls (nn hks (nn hx2 (nn hwrap (nn hnw (nn ht (nn hkk (nn hy hmd)))))))) ?_;(repeat' (with_reducible apply Br.mk<;>intro _)))
       (refine goM (hd) (hs3) ?_)
       rintro _ _ G4 ⟨rfl,rfl⟩ hs4
       refine goS trivial ?_
       (refine goX trivial ?_;(repeat' (with_reducible apply Br.mk<;>intro _)))
       exact zgg.mk ⟨later.length - (k+1),_,by omega,zby rfl,k+1,nw,_,_,_,_,hk',rfl,m0,m1,.inl ⟨rfl,rfl⟩,Sep.hs_mono (by omega) hs4,rfl⟩
 · obtain rfl:k=later.length:=by omega
   refine goR trivial ?_
   (refine goM (zex) ((show Sep ([]++_) G3 from hs3)) ?_)
   rintro _ _ G4 ⟨rfl,rfl⟩ hs4
   refine goS trivial ?_
   refine goR trivial ?_
   exact Fin.eq rfl ⟨rfl,_,.refl _,rfl⟩
end Go.Proofs.Ytailhmffljoojaa
