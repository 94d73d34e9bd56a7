/-
 Layer 40 (txn): is a list a write of a site.
 Conditions: of each contract as it says.
-/
import Derived.Test.YtlejjdbmmdghmaaS22i
set_option linter.unusedSimpArgs false
namespace Go.Proofs.Ytlejjdbmmdghmaa
open Go Go.E2 C22 C40
set_option maxHeartbeats 2000000
theorem zdq (l:List Tw):(l.map eTw).all (zb 4)=true:=by
 rw [List.all_eq_true];intro x hx
 obtain ⟨y,_,rfl⟩:=List.mem_map.1 hx;rfl
def okT (n:Nat) (x:Tw):Prop:=0≤x.key∧x.key<n∧0≤x.ver∧x.ver≤1099511627776∧x.val.length≤40∧(x.rd=true→x.val=[])
instance (n:Nat) (x:Tw):Decidable (okT n x):=by unfold okT;exact inferInstance
def Rgt (n:Nat) (l:List Tw):Prop:=(∀ x∈l,okT n x)∧(l.map Tw.key).Nodup∧1≤l.length∧l.length≤16
instance (n:Nat) (l:List Tw):Decidable (Rgt n l):=by unfold Rgt;exact inferInstance
def zkr:List Int→Nat
 | []=>0
 | k::ks=>zkr ks ||| 2 ^ k.toNat
theorem zyz {ks:List Int} (h:∀ k∈ks,k<16):zkr ks<65536:=by
 induction ks with
 | nil=>decide
 | cons k ks ih =>
  have h1:=ih fun k hk=>h k (List.mem_cons_of_mem _ hk)
  have h2:=h k List.mem_cons_self
  exact Nat.or_lt_two_pow (n:=16) h1 (Nat.pow_lt_pow_right (by omega) (by omega))
theorem ztf (ks:List Int) (h0:∀ k∈ks,0≤k) (j:Nat):(zkr ks).testBit j=decide ((j:Int)∈ks):=by
 induction ks with
 | nil=>simp [zkr]
 | cons k ks ih =>
  have h2:=h0 k List.mem_cons_self
  rw [zkr,Nat.testBit_or,ih fun k hk=>h0 k (List.mem_cons_of_mem _ hk),Nat.testBit_two_pow]
  by_cases e:k.toNat=j
  · have:k=(j:Int):=by omega
    simp [e,this]
  · have:¬ (j:Int)=k:=by omega
    simp [e,this]
theorem zwm (ks:List Int) (h0:∀ k∈ks,0≤k) (j:Nat):zkr ks / 2 ^ j % 2=if (j:Int)∈ks then 1 else 0:=by
 have h:=ztf ks h0 j
 rw [Nat.testBit_eq_decide_div_mod_eq] at h
 by_cases e:(j:Int)∈ks
 · rw [if_pos e];simpa [e] using h
 · rw [if_neg e]
   have:¬ zkr ks / 2 ^ j % 2=1:=by simpa [e] using h
   omega
theorem zy0 {a b:Nat} (ha:a<65536) (hb:b<65536):zb6 .or (.int .i64 (a:Int)) (.int .i64 (b:Int))=some (.int .i64 ((a ||| b:Nat):Int)):=by
 have h:=zxy 64 (a:=(a:Int)) (b:=(b:Int)) (by omega) (by omega) (by omega) (by omega)
 simp only [zb6,if_true]
 have hb':IntKind.i64.bits=64:=rfl
 have:=Nat.or_lt_two_pow (n:=16) ha hb
 rw [hb',h,Int.toNat_natCast,Int.toNat_natCast]
 congr 2
 exact wrap_i64 (by omega) (by omega)
theorem zy1 (sb q mr n:Nat) (hn:n≤16) (l:List Tw) (hL:l.length≤9223372036854775807) :
 zy Try.prog f_zz52 [.gp sb 0,eL l] [SiA sb q mr n] (fun r post=>r=.d (.bool (decide (Rgt n l)))∧post=[SiA sb q mr n]):=by
 refine zg fol zz52_cp fun R G σ hs=>?_
 have hg:=Sep.get (b:=sb) (cs:=[eSt q,.int .i64 n,.mref mr]) hs
 have hall:=zdq l
 refine goS trivial ?_
 refine goR trivial ?_
 refine W.loop (fun m st=>∃ (i:Nat) (b7:Blk),m+i=l.length∧(∀ x∈l.take i,okT n x)∧((l.take i).map Tw.key).Nodup ∧
  st=(E [(0,.d (.gp sb 0)),(1,.d (eL l)),(5,.d (.int .i64 (zkr ((l.take i).map Tw.key).reverse:Nat))),(8,.d (eL l)),(9,.d (.int .i64 (l.length:Nat))),(10,.d (.int .i64 (i:Nat)))],HB [(7,b7)],σ,G))
  ⟨_,_,zt (zcx [] [7] rfl).symm,0,_,rfl,by simp,by simp,rfl⟩ ?_
 rintro m st ⟨i,b7,hi,ho,hnd,rfl⟩
 by_cases hlt:i<l.length
 case neg =>
  have:i=l.length:=by omega
  subst this
  rw [List.take_length] at ho hnd
  have hx:((l.length:Int)<(l.length:Int))=False:=eq_false (by omega)
  by_cases h1:l.length<1
  · have e:decide (Rgt n l)=false:=decide_eq_false fun h=>by have:=h.2.2.1;omega
    rw [e]
    have g1:(1≤(l.length:Int))=False:=eq_false (by omega)
    (refine goX (nn hx g1) ?_;(repeat' (with_reducible apply Br.mk<;>intro _)))
    exact Fin.eq rfl ⟨rfl,_,⟨rfl,rfl⟩,hs⟩
  have g1:(1≤(l.length:Int))=True:=eq_true (by omega)
  by_cases h2:l.length≤16
  · have e:decide (Rgt n l)=true:=decide_eq_true ⟨ho,hnd,by omega,h2⟩
    rw [e]
    have g2:((l.length:Int)≤16)=True:=eq_true (by omega)
    (refine goX (nn hx (nn g1 g2)) ?_;(repeat' (with_reducible apply Br.mk<;>intro _)))
    exact Fin.eq rfl ⟨rfl,_,⟨rfl,rfl⟩,hs⟩
  · have e:decide (Rgt n l)=false:=decide_eq_false fun h=>h2 h.2.2.2
    rw [e]
    have g2:((l.length:Int)≤16)=False:=eq_false (by omega)
    (refine goX (nn hx (nn g1 g2)) ?_;(repeat' (with_reducible apply Br.mk<;>intro _)))
    exact Fin.eq rfl ⟨rfl,_,⟨rfl,rfl⟩,hs⟩
 have hlt':(i:Int)<(l.length:Int):=by omega
 have hk0:∀ k∈((l.take i).map Tw.key).reverse,0≤k:=fun k hk=>by
  obtain ⟨x,hx,rfl⟩:=List.mem_map.1 (List.mem_reverse.1 hk)
  exact (ho x hx).1
 have hk16:∀ k∈((l.take i).map Tw.key).reverse,k<16:=fun k hk=>by
  obtain ⟨x,hx,rfl⟩:=List.mem_map.1 (List.mem_reverse.1 hk)
  have:=(ho x hx).2.1
  omega
 have hB:=zyz hk16
 have htk:l.take (i+1)=l.take i++[l[i]]:=by rw [List.take_add_one,List.getElem?_eq_getElem hlt];rfl
 have bad:(¬ okT n l[i]∨l[i].key∈(l.take i).map Tw.key)→decide (Rgt n l)=false:=fun h=>decide_eq_false fun hR=>by
  rcases h with h|h
  · exact h (hR.1 _ (List.getElem_mem hlt))
  · have h3:=hR.2.1
    rw [← List.take_append_drop (i+1) l,htk,List.map_append,List.map_append] at h3
    have h4:=(List.nodup_append.1 h3).1
    exact (List.nodup_append.1 h4).2.2 _ h _ (by simp) rfl
 have hbd:=zwm ((l.take i).map Tw.key).reverse hk0 l[i].key.toNat
 have hmem:(((l[i].key.toNat:Nat):Int)∈((l.take i).map Tw.key).reverse↔((l[i].key.toNat:Nat):Int)∈(l.take i).map Tw.key):=List.mem_reverse
 generalize hBe:zkr ((l.take i).map Tw.key).reverse=B at hB hbd ⊢
 generalize hxe:l[i]=x at bad hbd hmem ⊢
 by_cases c1:x.key<0
 · rw [bad (.inl fun h=>by have:=h.1;omega)]
   (refine goX (nn hlt' (nn hall (nn hxe c1))) ?_;(repeat' (with_reducible apply Br.mk<;>intro _)))
   exact Fin.eq rfl ⟨rfl,_,⟨rfl,rfl⟩,hs⟩
 have c1':(x.key<0)=False:=eq_false c1
 by_cases c2:(n:Int)≤x.key
 · rw [bad (.inl fun h=>by have:=h.2.1;omega)]
   (refine goX (nn hlt' (nn hall (nn hxe (nn c1' (nn hg c2))))) ?_;(repeat' (with_reducible apply Br.mk<;>intro _)))
   exact Fin.eq rfl ⟨rfl,_,⟨rfl,rfl⟩,hs⟩
 have c2':((n:Int)≤x.key)=False:=eq_false c2
 obtain ⟨kn,hkn⟩:∃ kn:Nat,x.key=kn:=Int.eq_ofNat_of_zero_le (by omega)
 have hkn':x.key.toNat=kn:=by omega
 rw [hkn'] at hbd hmem
 have hp2:2 ^ kn<65536:=Nat.pow_lt_pow_right (a:=2) (m:=kn) (n:=16) (by omega) (by omega)
 have hsh:zb6 .shr (.int .i64 (B:Int)) (.int .i64 x.key)=some (.int .i64 ((B / 2 ^ kn:Nat):Int)):=by
  have hb':IntKind.i64.bits=64:=rfl
  rw [zxn _ _ _ _ (by omega) (by omega),hkn',hb',if_pos (by omega)]
  simp
 have hdl:B / 2 ^ kn≤B:=Nat.div_le_self _ _
 generalize hDe:B / 2 ^ kn=Dv at hsh hdl hbd
 have hand:zb6 .and (.int .i64 (Dv:Int)) (.int .i64 1)=some (.int .i64 (if (kn:Int)∈(l.take i).map Tw.key then 1 else 0)):=by
  rw [z0y (by omega) (by omega) (by omega) (by omega),Int.toNat_natCast]
  have:Dv &&& (1:Int).toNat=Dv % 2:=Nat.and_one_is_mod _
  rw [this,hbd]
  by_cases h:(kn:Int)∈(l.take i).map Tw.key
  · rw [if_pos (hmem.2 h),if_pos h];rfl
  · rw [if_neg (fun h'=>h (hmem.1 h')),if_neg h];rfl
 by_cases c3:(kn:Int)∈(l.take i).map Tw.key
 · rw [if_pos c3] at hand
   rw [bad (.inr (by rw [hkn];exact c3))]
   (refine goX (nn hlt' (nn hall (nn hxe (nn c1' (nn hg (nn c2' (nn hsh hand))))))) ?_;(repeat' (with_reducible apply Br.mk<;>intro _)))
   exact Fin.eq rfl ⟨rfl,_,⟨rfl,rfl⟩,hs⟩
 rw [if_neg c3] at hand
 by_cases c4:x.ver<0
 · rw [bad (.inl fun h=>by have:=h.2.2.1;omega)]
   (refine goX (nn hlt' (nn hall (nn hxe (nn c1' (nn hg (nn c2' (nn hsh (nn hand c4)))))))) ?_;(repeat' (with_reducible apply Br.mk<;>intro _)))
   exact Fin.eq rfl ⟨rfl,_,⟨rfl,rfl⟩,hs⟩
 have c4':(x.ver<0)=False:=eq_false c4
 by_cases c5:1099511627776<x.ver
 · rw [bad (.inl fun h=>by have:=h.2.2.2.1;omega)]
   (refine goX (nn hlt' (nn hall (nn hxe (nn c1' (nn hg (nn c2' (nn hsh (nn hand (nn c4' c5))))))))) ?_;(repeat' (with_reducible apply Br.mk<;>intro _)))
   exact Fin.eq rfl ⟨rfl,_,⟨rfl,rfl⟩,hs⟩
 have c5':(1099511627776<x.ver)=False:=eq_false c5
 by_cases c6:40<x.val.length
 · rw [bad (.inl fun h=>by have:=h.2.2.2.2.1;omega)]
   have c6':(40<(x.val.length:Int))=True:=eq_true (by omega)
   (refine goX (nn hlt' (nn hall (nn hxe (nn c1' (nn hg (nn c2' (nn hsh (nn hand (nn c4' (nn c5' c6')))))))))) ?_;(repeat' (with_reducible apply Br.mk<;>intro _)))
   exact Fin.eq rfl ⟨rfl,_,⟨rfl,rfl⟩,hs⟩
 have c6':(40<(x.val.length:Int))=False:=eq_false (by omega)
 by_cases c7:x.rd=true∧x.val≠[]
 · rw [bad (.inl fun h=>c7.2 (h.2.2.2.2.2 c7.1))]
   obtain ⟨c8,c9⟩:=c7
   (refine goX (nn hlt' (nn hall (nn hxe (nn c1' (nn hg (nn c2' (nn hsh (nn hand (nn c4' (nn c5' (nn c6' (nn c8 c9)))))))))))) ?_;(repeat' (with_reducible apply Br.mk<;>intro _)))
   exact Fin.eq rfl ⟨rfl,_,⟨rfl,rfl⟩,hs⟩
 have hok:okT n x:=⟨by omega,by omega,by omega,by omega,by omega,fun h=>Decidable.byContradiction fun h'=>c7 ⟨h,h'⟩⟩
 have hshl:zb6 .shl (.int .i64 1) (.int .i64 x.key)=some (.int .i64 ((2 ^ kn:Nat):Int)):=by
  have hb':IntKind.i64.bits=64:=rfl
  rw [zxo _ _ _ _ (by omega),hkn',hb',if_pos (by omega),Int.one_mul]
  have:((2:Int) ^ kn)=((2 ^ kn:Nat):Int):=by simp
  generalize 2 ^ kn=Pw at hp2 this ⊢
  rw [this,wrap_i64 (by omega) (by omega)]
 have hor:=zy0 (a:=B) (b:=2 ^ kn) hB hp2
 have hnext:B ||| 2 ^ kn=zkr ((l.take (i+1)).map Tw.key).reverse:=by
  rw [htk,hxe,List.map_append,List.reverse_append]
  show _=zkr (((l.take i).map Tw.key).reverse) ||| 2 ^ x.key.toNat
  rw [hBe,hkn']
 rw [hnext] at hor
 generalize hPe:2 ^ kn=Pw at hshl hor
 have hnd':((l.take (i+1)).map Tw.key).Nodup:=by
  rw [htk,hxe,List.map_append,List.nodup_append]
  refine ⟨hnd,by simp,fun a ha b hb=>?_⟩
  have:b=(kn:Int):=by rw [← hkn];simpa using hb
  rw [this]
  rintro rfl
  exact c3 ha
 have ho':∀ y∈l.take (i+1),okT n y:=fun y hy=>by
  rw [htk,hxe,List.mem_append] at hy
  rcases hy with hy|hy
  · exact ho y hy
  · rw [List.mem_singleton.1 hy];exact hok
 cases hr:x.rd with
 | false =>
  (refine goX (nn hlt' (nn hall (nn hxe (nn c1' (nn hg (nn c2' (nn hsh (nn hand (nn c4' (nn c5' (nn c6' (nn hr (nn hshl hor))))))))))))) ?_;(repeat' (with_reducible apply Br.mk<;>intro _)))
  exact ⟨m - 1,_,by omega,zt rfl,i+1,_,by omega,ho',hnd',rfl⟩
 | true =>
  have hv:(x.val=[])=True:=eq_true (hok.2.2.2.2.2 hr)
  (refine goX (nn hlt' (nn hall (nn hxe (nn c1' (nn hg (nn c2' (nn hsh (nn hand (nn c4' (nn c5' (nn c6' (nn hr (nn hshl (nn hor hv)))))))))))))) ?_;(repeat' (with_reducible apply Br.mk<;>intro _)))
  exact ⟨m - 1,_,by omega,zt rfl,i+1,_,by omega,ho',hnd',rfl⟩
end Go.Proofs.Ytlejjdbmmdghmaa
namespace Go.Proofs.Ytlejjdbmmdghmaa
open Go Go.E2 C22 C40
set_option maxHeartbeats 1000000
theorem zwn {β:Type} {N:List (Int×β)} {sn:List Int} (a:Int):(N.filter fun p=>decide (p.1 ∉ sn++[a])).length≤(N.filter fun p=>decide (p.1 ∉ sn)).length:=by
 induction N with
 | nil=>simp
 | cons p N ih =>
  simp only [List.filter_cons]
  split
  · rename_i h1
    rw [if_pos (by simp at h1 ⊢;exact h1.1)]
    simpa using ih
  · split
    · simp only [List.length_cons];omega
    · exact ih
theorem zks {β:Type} {N:List (Int×β)} {sn:List Int} {a:Int} {v:β} (hm:(a,v)∈N) (hn:a ∉ sn):(N.filter fun p=>decide (p.1 ∉ sn++[a])).length<(N.filter fun p=>decide (p.1 ∉ sn)).length:=by
 induction N with
 | nil=>cases hm
 | cons p N ih =>
  simp only [List.filter_cons]
  rcases List.mem_cons.1 hm with rfl|hm
  · rw [if_neg (by simp),if_pos (by simpa using hn)]
    have:=zwn (N:=N) (sn:=sn) a
    simp only [List.length_cons];omega
  · have:=ih hm
    split
    · rename_i h1
      rw [if_pos (by simp at h1 ⊢;exact h1.1)]
      simpa using this
    · split
      · simp only [List.length_cons];omega
      · exact this
def zfm (x y:Tw):Bool:=decide (y.key=x.key) && !(y.rd && x.rd)
theorem zy2 (b:Nat) (x y:Tw) (G:Gh) (hg:G.c b=some [.int .i64 x.key,.int .i64 x.ver,.str x.val,.bool x.rd]) :
 zk3 Try.prog f_zz46 [eTw y,.gp b 0] G (·=.d (.bool (zfm x y))):=by
 intro σ
 refine zap fol zz46_cp ?_
 unfold zfm
 by_cases h:y.key=x.key
 · cases hy:y.rd<;>cases hx:x.rd
   all_goals
    rw [hx] at hg
    refine goS hy ?_
    (refine goX (nn hg (nn h hy)) ?_;(repeat' (with_reducible apply Br.mk<;>intro _)))
    exact Fin.eq rfl ⟨rfl,rfl,by simp [h]⟩
 · refine goS trivial ?_
   (refine goX (nn hg h) ?_;(repeat' (with_reducible apply Br.mk<;>intro _)))
   exact Fin.eq rfl ⟨rfl,rfl,by simp [h]⟩
def ixP (p:Tw→Bool):List Tw→Nat→Int
 | [],_=>-1
 | x::l,i=>if p x then (i:Int) else ixP p l (i+1)
theorem zqc (p:Tw→Bool):∀ (l:List Tw) (i:Nat),decide (0≤ixP p l i)=l.any p
 | [],_=>rfl
 | x::l,i=>by
   unfold ixP
   cases hp:p x with
   | true=>simp [hp]
   | false=>simp only [Bool.false_eq_true,if_false];rw [zqc p l (i+1)];simp [hp]
theorem zwo (g:FuncId) (ds:List D) (G:Gh) (p:Tw→Bool) (l:List Tw) (hL:l.length≤9223372036854775807) (hp:∀ x∈l,zk3 Try.prog g ([eTw x]++ds) G (·=.d (.bool (p x)))) :
 zk3 Try.prog f_zz3 [eL l,.clo g ds] G (·=.d (.int .i64 (ixP p l 0))):=by
 intro σ
 refine zap fol zz3_cp ?_
 have hall:=zdq l
 refine goS trivial ?_
 refine goR trivial ?_
 refine W.loop (fun m st=>∃ (i:Nat),m+i=l.length∧ixP p (l.drop i) i=ixP p l 0 ∧
  st=(E [(0,.d (eL l)),(1,.d (.clo g ds)),(7,.d (.int .i64 (l.length:Nat))),(8,.d (.int .i64 (i:Nat)))],HB [],σ,G))
  ⟨_,_,zb7,0,rfl,rfl,rfl⟩ ?_
 rintro m st ⟨i,hi,he,rfl⟩
 by_cases hlt:i<l.length
 · have hlt':(i:Int)<(l.length:Int):=by omega
   have hpx:=hp _ (List.getElem_mem hlt)
   rw [List.drop_eq_getElem_cons hlt,ixP] at he
   (refine goX (nn hlt' hall) ?_;(repeat' (with_reducible apply Br.mk<;>intro _)))
   refine goK (vs:=[eTw l[i]]) (cs:=ds) hpx ?_
   cases hb:p l[i] with
   | true =>
    rw [hb,if_pos rfl] at he
    rw [← he]
    refine goS trivial ?_
    refine goR trivial ?_
    exact Fin.eq rfl ⟨rfl,rfl,rfl⟩
   | false =>
    rw [hb,if_neg (by simp)] at he
    refine goS trivial ?_
    refine goR trivial ?_
    exact ⟨m - 1,_,by omega,zb7,i+1,by omega,he,rfl⟩
 · have:i=l.length:=by omega
   subst this
   rw [List.drop_length] at he
   have hx:((l.length:Int)<(l.length:Int))=False:=eq_false (by omega)
   (refine goX hx ?_;(repeat' (with_reducible apply Br.mk<;>intro _)))
   rw [← he]
   exact Fin.eq rfl ⟨rfl,rfl,rfl⟩
end Go.Proofs.Ytlejjdbmmdghmaa
namespace Go.Proofs.Ytlejjdbmmdghmaa
open Go Go.E2 C22 C40
set_option maxHeartbeats 1000000
theorem zos (g:FuncId) (ds:List D) (G:Gh) (p:Tw→Bool) (l:List Tw) (hL:l.length≤9223372036854775807) (hp:∀ x∈l,zk3 Try.prog g ([eTw x]++ds) G (·=.d (.bool (p x)))) :
 zk3 Try.prog f_zz1 [eL l,.clo g ds] G (·=.d (.bool (l.any p))):=by
 intro σ
 refine zap fol zz1_cp ?_
 have h:=zwo g ds G p l hL hp
 have ha:=zqc p l 0
 generalize ixP p l 0=k at h ha
 refine goS trivial ?_
 refine goR trivial ?_
 (refine goQ (h) ?_;refine goS trivial ?_)
 refine goR trivial ?_
 rw [← ha]
 exact Fin.eq rfl ⟨rfl,rfl,rfl⟩
theorem zwp (g:FuncId) (ds:List D) (pre:List As) (p:Tw→Bool) (l:List Tw) (hL:l.length≤9223372036854775807) (hp:∀ x∈l,zy Try.prog g (ds++[eTw x]) pre (fun r post=>r=.d (.bool (p x))∧post=pre)) :
 zy Try.prog f_zz3 [eL l,.bnd g ds] pre (fun r post=>r=.d (.int .i64 (ixP p l 0))∧post=pre):=by
 refine zg fol zz3_cp fun R G σ hs=>?_
 have hall:=zdq l
 refine goS trivial ?_
 refine goR trivial ?_
 refine W.loop (fun m st=>∃ (i:Nat) (G:Gh),m+i=l.length∧ixP p (l.drop i) i=ixP p l 0∧Sep (pre++R) G ∧
  st=(E [(0,.d (eL l)),(1,.d (.bnd g ds)),(7,.d (.int .i64 (l.length:Nat))),(8,.d (.int .i64 (i:Nat)))],HB [],σ,G))
  ⟨_,_,zb7,0,G,rfl,rfl,hs,rfl⟩ ?_
 rintro m st ⟨i,G1,hi,he,hs1,rfl⟩
 by_cases hlt:i<l.length
 · have hlt':(i:Int)<(l.length:Int):=by omega
   have hpx:=hp _ (List.getElem_mem hlt)
   rw [List.drop_eq_getElem_cons hlt,ixP] at he
   (refine goX (nn hlt' hall) ?_;(repeat' (with_reducible apply Br.mk<;>intro _)))
   refine z3p (g:=g) (xs:=ds) (vs:=[eTw l[i]]) hpx hs1 (.inl rfl) ⟨by simp -dsimp (disch:=first|omega|(simp only [go_sem];omega)) only [go_sem,seval,Nat.reduceEqDiff,Nat.reduceLeDiff],by simp -dsimp (disch:=first|omega|(simp only [go_sem];omega)) only [go_sem,seval,Nat.reduceEqDiff,Nat.reduceLeDiff]⟩ ?_
   rintro _ _ G2 ⟨rfl,rfl⟩ hs2
   cases hb:p l[i] with
   | true =>
    rw [hb,if_pos rfl] at he
    rw [← he]
    refine goS trivial ?_
    refine goR trivial ?_
    exact Fin.eq rfl ⟨rfl,_,⟨rfl,rfl⟩,hs2⟩
   | false =>
    rw [hb,if_neg (by simp)] at he
    refine goS trivial ?_
    refine goR trivial ?_
    exact ⟨m - 1,_,by omega,zb7,i+1,_,by omega,he,hs2,rfl⟩
 · have:i=l.length:=by omega
   subst this
   rw [List.drop_length] at he
   have hx:((l.length:Int)<(l.length:Int))=False:=eq_false (by omega)
   (refine goX hx ?_;(repeat' (with_reducible apply Br.mk<;>intro _)))
   rw [← he]
   exact Fin.eq rfl ⟨rfl,_,⟨rfl,rfl⟩,hs1⟩
theorem zot (g:FuncId) (ds:List D) (pre:List As) (p:Tw→Bool) (l:List Tw) (hL:l.length≤9223372036854775807) (hp:∀ x∈l,zy Try.prog g (ds++[eTw x]) pre (fun r post=>r=.d (.bool (p x))∧post=pre)) :
 zy Try.prog f_zz1 [eL l,.bnd g ds] pre (fun r post=>r=.d (.bool (l.any p))∧post=pre):=by
 refine zg fol zz1_cp fun R G σ hs=>?_
 have ha:=zqc p l 0
 refine goS trivial ?_
 refine goR trivial ?_
 (refine goM (zwp g ds pre p l hL hp) (hs) ?_)
 rintro _ _ G2 ⟨rfl,rfl⟩ hs2
 generalize ixP p l 0=k at ha ⊢
 rw [← ha]
 refine goS trivial ?_
 refine goR trivial ?_
 exact Fin.eq rfl ⟨rfl,_,⟨rfl,rfl⟩,hs2⟩
theorem zr0 {β:Type} {m:List (Int×β)} (h:(m.map (·.1)).Nodup) {x y:Int×β} (hx:x∈m) (hy:y∈m) (e:x.1=y.1):x=y:=by
 obtain ⟨i,hi,rfl⟩:=List.getElem_of_mem hx
 obtain ⟨j,hj,rfl⟩:=List.getElem_of_mem hy
 have:=(List.getElem_inj (h₀:=by simpa using hi) (h₁:=by simpa using hj) h).1 (by simpa using e)
 subst this;rfl
def zez (ws:List (Int×Wr)) (x:Tw):Bool:=ws.any fun p=>p.2.l.any (zfm x)
def z10 (ws:List (Int×Wr)):Prop:=∀ p∈ws,p.2.l.length≤1000
theorem z11 (sb q mr n:Nat) (ws:List (Int×Wr)) (hw:z10 ws) (x:Tw) :
 zy Try.prog f_zz54 [.gp sb 0,eTw x] [SiA sb q mr n,MwA mr ws] (fun r post=>r=.d (.bool (zez ws x))∧post=[SiA sb q mr n,MwA mr ws]):=by
 refine zg fol zz54_cp fun R G σ hs=>?_
 refine goS trivial ?_
 refine goR trivial ?_
 refine zam fun b3 hb3=>?_
 have hs1:Sep (ze b3 [.int .i64 x.key,.int .i64 x.ver,.str x.val,.bool x.rd]::SiA sb q mr n::MwA mr ws::R) (G.set b3 (some [.int .i64 x.key,.int .i64 x.ver,.str x.val,.bool x.rd])):=Sep.new hb3 hs
 generalize G.set b3 (some [D.int .i64 x.key,.int .i64 x.ver,.str x.val,.bool x.rd])=G1 at hs1 ⊢
 have hg1:=Sep.get (b:=sb) (cs:=[eSt q,.int .i64 n,.mref mr]) hs1.tail
 refine goS trivial ?_
 refine goR hg1 ?_
 have hs2:Sep (MwA mr ws::ze b3 [.int .i64 x.key,.int .i64 x.ver,.str x.val,.bool x.rd]::SiA sb q mr n::R) G1:=hs1.perm pp
 refine zl6 (Sep.map hs2) fun it X hit hr=>?_
 have hs3:=Sep.rngNew hs2 hit hr
 generalize G1.setM it (some X)=G2 at hs3 ⊢
 refine goS trivial ?_
 refine goR trivial ?_
 refine W.loop (fun z st=>∃ (sn:List Int) (b6:Blk) (G:Gh),z=(ws.filter fun p=>decide (p.1 ∉ sn)).length∧(∀ p∈ws,p.1∈sn→p.2.l.any (zfm x)=false) ∧
  Sep (ztj [.i] eI eWr mr it ws sn::ze b3 [.int .i64 x.key,.int .i64 x.ver,.str x.val,.bool x.rd]::SiA sb q mr n::R) G ∧
  st=(E [(0,.d (.gp sb 0)),(3,.d (.gp b3 0)),(11,.d (.gp it 0))],HB [(6,b6)],σ,G))
  ⟨_,_,zt (zcx [] [6] rfl).symm,[],_,G2,rfl,by simp,hs3,rfl⟩ ?_
 rintro z st ⟨sn,b6,G4,rfl,hno,hs4,rfl⟩
 refine goR trivial ?_
 refine zl7 (Sep.rngl hs4) (fun hall=>?_) (fun a v X' hav hns hr' hent=>?_)
 · have e:zez ws x=false:=by
    unfold zez
    rw [List.any_eq_false]
    intro p hp
    rw [hno p hp (hall p hp)];simp
   rw [e]
   have hs5:Sep (SiA sb q mr n::MwA mr ws::R) G4:=((Sep.rngEnd hs4).perm pp:Sep (ze b3 [.int .i64 x.key,.int .i64 x.ver,.str x.val,.bool x.rd]::SiA sb q mr n::MwA mr ws::R) G4).tail
   refine goS trivial ?_
   (refine goX trivial ?_;(repeat' (with_reducible apply Br.mk<;>intro _)))
   exact Fin.eq rfl ⟨rfl,_,⟨rfl,rfl⟩,hs5⟩
 · have hs5:=Sep.rngSet (.inr rfl) hs4 hr'
   generalize G4.setM it (some X')=G5 at hs5 hent ⊢
   have hc:=hs5.tail.get
   have hcon:=zos f_zz46 [.gp b3 0] G5 (zfm x) v.l (by have:=hw _ hav;simp only at this;omega) (fun y _=>zy2 b3 x y G5 hc)
   refine goS hent ?_
   refine goR hent ?_
   refine goQ hcon ?_
   cases hb:v.l.any (zfm x) with
   | true =>
    have e:zez ws x=true:=by
     unfold zez
     rw [List.any_eq_true]
     exact ⟨(a,v),hav,hb⟩
    rw [e]
    have hs6:Sep (SiA sb q mr n::MwA mr ws::R) G5:=((Sep.rngEnd hs5).perm pp:Sep (ze b3 [.int .i64 x.key,.int .i64 x.ver,.str x.val,.bool x.rd]::SiA sb q mr n::MwA mr ws::R) G5).tail
    refine goS trivial ?_
    (refine goX trivial ?_;(repeat' (with_reducible apply Br.mk<;>intro _)))
    exact Fin.eq rfl ⟨rfl,_,⟨rfl,rfl⟩,hs6⟩
   | false =>
    refine goS trivial ?_
    (refine goX trivial ?_;(repeat' (with_reducible apply Br.mk<;>intro _)))
    refine ⟨_,_,zks hav hns,zt rfl,sn++[a],_,G5,rfl,fun p hp hps=>?_,hs5,rfl⟩
    rcases List.mem_append.1 hps with h|h
    · exact hno p hp h
    · have hnd:=(Sep.rngl hs5).nodup
      have:p=(a,v):=by
       have e1:p.1=a:=List.mem_singleton.1 h
       exact zr0 hnd hp hav e1
      rw [this];exact hb
theorem zqr (sb q mr n:Nat) (ws:List (Int×Wr)) (b:Nat) (s:Int) :
 zy Try.prog f_zz61 [.gp sb 0,.clo f_zz21 [.gp b 0]] [SiA sb q mr n,MwA mr ws,ze b [.int .i64 s]]
  (fun r post=>r=.d (.bool (ws.any fun p=>decide (p.2.slot=s)))∧post=[SiA sb q mr n,MwA mr ws,ze b [.int .i64 s]]):=by
 refine zg fol zz61_cp fun R G σ hs=>?_
 have hs1:Sep (SiA sb q mr n::MwA mr ws::ze b [.int .i64 s]::R) G:=hs
 have hg1:=Sep.get (b:=sb) (cs:=[eSt q,.int .i64 n,.mref mr]) hs1
 refine goS trivial ?_
 refine goR hg1 ?_
 have hs2:Sep (MwA mr ws::ze b [.int .i64 s]::SiA sb q mr n::R) G:=hs1.perm pp
 refine zl6 (Sep.map hs2) fun it X hit hr=>?_
 have hs3:=Sep.rngNew hs2 hit hr
 generalize G.setM it (some X)=G2 at hs3 ⊢
 refine goS trivial ?_
 refine goR trivial ?_
 refine W.loop (fun z st=>∃ (sn:List Int) (b6:Blk) (G:Gh),z=(ws.filter fun p=>decide (p.1 ∉ sn)).length∧(∀ p∈ws,p.1∈sn→p.2.slot≠s) ∧
  Sep (ztj [.i] eI eWr mr it ws sn::ze b [.int .i64 s]::SiA sb q mr n::R) G ∧
  st=(E [(1,.d (.clo f_zz21 [.gp b 0])),(11,.d (.gp it 0))],HB [(6,b6)],σ,G))
  ⟨_,_,zt (zcx [] [6] rfl).symm,[],_,G2,rfl,by simp,hs3,rfl⟩ ?_
 rintro z st ⟨sn,b6,G4,rfl,hno,hs4,rfl⟩
 refine goR trivial ?_
 refine zl7 (Sep.rngl hs4) (fun hall=>?_) (fun a v X' hav hns hr' hent=>?_)
 · have e:(ws.any fun p=>decide (p.2.slot=s))=false:=by
    rw [List.any_eq_false]
    intro p hp
    simpa using hno p hp (hall p hp)
   rw [e]
   have hs5:Sep (SiA sb q mr n::MwA mr ws::ze b [.int .i64 s]::R) G4:=(Sep.rngEnd hs4).perm pp
   refine goS trivial ?_
   (refine goX trivial ?_;(repeat' (with_reducible apply Br.mk<;>intro _)))
   exact Fin.eq rfl ⟨rfl,_,⟨rfl,rfl⟩,hs5⟩
 · have hs5:=Sep.rngSet (.inr rfl) hs4 hr'
   generalize G4.setM it (some X')=G5 at hs5 hent ⊢
   have hc:=hs5.tail.get
   have hcl:zk3 Try.prog f_zz21 [eWr v,.gp b 0] G5 (·=.d (.bool (decide (v.slot=s)))):=by
    intro σ
    refine zap fol zz21_cp ?_
    refine goS trivial ?_
    refine goR hc ?_
    exact Fin.eq rfl ⟨rfl,rfl,rfl⟩
   refine goS hent ?_
   refine goR hent ?_
   refine goK (vs:=[eWr v]) (cs:=[.gp b 0]) hcl ?_
   by_cases hb:v.slot=s
   · have e:(ws.any fun p=>decide (p.2.slot=s))=true:=by
      rw [List.any_eq_true]
      exact ⟨(a,v),hav,by simpa using hb⟩
     rw [e,decide_eq_true hb]
     have hs6:Sep (SiA sb q mr n::MwA mr ws::ze b [.int .i64 s]::R) G5:=(Sep.rngEnd hs5).perm pp
     refine goS trivial ?_
     (refine goX trivial ?_;(repeat' (with_reducible apply Br.mk<;>intro _)))
     exact Fin.eq rfl ⟨rfl,_,⟨rfl,rfl⟩,hs6⟩
   · rw [decide_eq_false hb]
     refine goS trivial ?_
     (refine goX trivial ?_;(repeat' (with_reducible apply Br.mk<;>intro _)))
     refine ⟨_,_,zks hav hns,zt rfl,sn++[a],_,G5,rfl,fun p hp hps=>?_,hs5,rfl⟩
     rcases List.mem_append.1 hps with h|h
     · exact hno p hp h
     · have hnd:=(Sep.rngl hs5).nodup
       have:p=(a,v):=by
        have e1:p.1=a:=List.mem_singleton.1 h
        exact zr0 hnd hp hav e1
       rw [this];exact hb
theorem zy3 (l:List Tw) (hl:l≠[]) (hl2:l.length≤1000):zba Try.prog f_zz4 [eL l] (·=.d (eL l)):=by
 refine zal fol zz4_cp ?_
 have hall:=zdq l
 refine goS trivial ?_
 (refine goX hall ?_;(repeat' (with_reducible apply Br.mk<;>intro _)))
 refine zz9 fun t ht=>?_
 have:t=false:=ht (by simpa using hl)
 subst this
 have hap:zbc 4 40 (.own 4 []) (eL l)=some (.own 4 (l.map eTw)):=by
  rw [zel 4 40 _ _ (by decide) (by rw [zo,List.length_map];simp only [List.length_nil,Nat.zero_add];omega),hall];rfl
 refine goS trivial ?_
 (refine goX hap ?_;(repeat' (with_reducible apply Br.mk<;>intro _)))
 exact Fin.ple rfl (.own _ _ _ (.inl rfl)) rfl
end Go.Proofs.Ytlejjdbmmdghmaa
