/-
 Layer 52 (house),continued: a house without anything.
 Conditions: of each contract as it says.
-/
import Derived.Test.YtailhmffljoojaaK11
set_option linter.unusedSimpArgs false
namespace Go.Proofs.Ytailhmffljoojaa
open Go Go.E2 C22 C52
set_option maxHeartbeats 1000000
theorem zpf (p:Nat) (d:Dk) (m:Int) (hd:Lv d m) (h0:0≤m) (hm:m≤1000000) (n:Nat) (h1:1≤n) (hn:n≤250) (hl:2 * n≤d.cs.length) :
 zt Try.prog f_zz51 [.gp p 0,.int .i64 0,.int .i64 n] [zaa p d] (fun r post=>r=.d (.int .i64 0)∧∃ d',SlD d' (m+2 * n+1) (List.replicate n [])∧post=[zaa p d']):=by
 refine zj fol zz51_cp fun R G σ hs=>?_
 have e1:((n:Int)<1)=False:=eq_false (by omega)
 have e2:(250<(n:Int))=False:=eq_false (by omega)
 refine goS trivial ?_
 refine goR (nn e1 e2) ?_
 (refine goM (zw5 p d m hd h0 (by omega) n h1 hl) (hs) ?_)
 rintro _ _ G2 ⟨rfl,d',hd',rfl⟩ hs2
 refine goS trivial ?_
 refine goR trivial ?_
 exact Fin.eq rfl ⟨rfl,_,⟨rfl,d',hd',rfl⟩,hs2⟩
theorem ztu (p:Nat) (d:Dk) (m:Int) (n:Nat) (hd:SlD d m (List.replicate n [])) (hm:m≤1000000) (h1:1≤n) (hn:n≤250) :
 zt Try.prog f_zz58 [.gp p 0,.int .i64 0,.int .i64 n] [zaa p d] (fun r post=>∃ hb,r=.tup [.gp hb 0,.int .i64 0]∧post=[HsA hb n m none]):=by
 refine zj fol zz58_cp fun R G σ hs=>?_
 have hs:Sep (zaa p d::R) G:=hs
 have e1:((n:Int)<1)=False:=eq_false (by omega)
 have e2:(250<(n:Int))=False:=eq_false (by omega)
 have hso:=ztq p d m (List.replicate n []) hd (by omega) (by rw [List.length_replicate];exact h1)
 rw [List.length_replicate] at hso
 refine goS trivial ?_
 refine goR trivial ?_
 refine zat fun g6 hg6=>?_
 have h2:=Sep.new (cs:=[.nilP]) hg6 hs
 generalize G.set g6 (some [.nilP])=G2 at h2 ⊢
 refine goS trivial ?_
 refine zat fun g7 hg7=>?_
 have h3:=Sep.new (cs:=[.int .i64 0]) hg7 h2
 generalize G2.set g7 (some [.int .i64 0])=G3 at h3 ⊢
 refine goS trivial ?_
 refine goR (nn e1 e2) ?_
 have h4:Sep (zaa p d::ze g7 [.int .i64 0]::ze g6 [.nilP]::R) G3:=h3.perm pp
 (refine goM (hso) (h4) ?_)
 rintro _ _ G4 ⟨q,rfl,rfl⟩ h5
 have h5:Sep (zaw q m (List.replicate n [])::ze g7 [.int .i64 0]::ze g6 [.nilP]::R) G4:=h5
 refine goS trivial ?_
 refine zat fun g8 hg8=>?_
 have h6:=Sep.new (cs:=[.nilP]) hg8 h5
 refine goS trivial ?_
 refine goR trivial ?_
 have h7:=h6.set (cs':=[.gp q 0])
 rw [Gh.set_set] at h7
 generalize G4.set g8 (some [.gp q 0])=G5 at h7 ⊢
 refine znx fun mr hmr=>?_
 have h8:=Sep.mapNew (vf:=id) zw6 hmr h7
 refine goS trivial ?_
 refine goR trivial ?_
 refine zat fun hb hhb=>?_
 have h9:=Sep.new (cs:=[.gp q 0,.int .i64 n,.mref mr]) hhb h8
 generalize (G5.setM mr (some (.map [] 0))).set hb (some [.gp q 0,.int .i64 n,.mref mr])=G6 at h9 ⊢
 refine goS trivial ?_
 refine goR trivial ?_
 have h10:Sep (zaw q m (List.replicate n [])::ze g8 [.gp q 0]::ze g7 [.int .i64 0]::ze g6 [.nilP]::HmA hb q mr n::MpA mr []::R) G6:=h9.perm pp
 refine W.loop (fun z st=>∃ (k:Nat) (G:Gh),k≤n∧z=n - k ∧
  Sep (zaw q m (List.replicate n [])::ze g8 [.gp q 0]::ze g7 [.int .i64 0]::ze g6 [.nilP]::HmA hb q mr n::MpA mr []::R) G ∧
  st=(E [(6,.d (.gp g6 0)),(7,.d (.gp g7 0)),(8,.d (.gp g8 0)),(11,.d (.gp hb 0)),(46,.d (.int .i64 n)),(47,.d (.int .i64 k))],HB [],σ,G))
  ⟨_,_,zgr,0,G6,by omega,rfl,h10,rfl⟩ ?_
 clear h10 h9 h8 h7 h6 h5 h4 h3 h2 hs
 rintro z st ⟨k,G1,hk,rfl,hs1,rfl⟩
 have hc8:=hs1.tail.get
 refine goR trivial ?_
 refine zdt (fun h4=>?_) (fun h4=>?_)
 · have hk':k<n:=by omega
   have hsg:=ziz q m (List.replicate n []) (by omega) k (by rw [List.length_replicate];omega)
   rw [List.getElem_replicate,if_pos rfl] at hsg
   refine goR hc8 ?_
   (refine goM (hsg) (hs1) ?_)
   rintro _ _ G2 ⟨rfl,rfl⟩ hs2
   refine goS trivial ?_
   refine goR trivial ?_
   exact zgg.mk ⟨n - (k+1),_,by omega,zgr,k+1,_,by omega,rfl,hs2,rfl⟩
 · have e3:k=n:=by omega
   subst e3
   refine goR trivial ?_
   have h5:=Sep.slNil (sz:=1) hs1
   have h6:Sep (HmA hb q mr k::MpA mr []::SlA 1 .nilS []::ze g8 [.gp q 0]::ze g7 [.int .i64 0]::ze g6 [.nilP]::zaw q m (List.replicate k [])::R) G1:=h5.perm pp
   (refine goM (zrq hb k q mr hn none .nilS (Nat.zero_le _) (fun e he=>by simp at he)) ((show Sep ([HmA hb q mr k,MpA mr (mO none .nilS),SlA 1 .nilS (aL (tO none))]++(ze g8 [.gp q 0]::ze g7 [.int .i64 0]::ze g6 [.nilP]::zaw q m (List.replicate k [])::R)) G1 from h6)) ?_)
   rintro _ _ G4 ⟨b1,rfl,rfl⟩ h8
   have h8:Sep (HmA hb q mr k::MpA mr []::SlA 1 .nilS []::FrA b1 k 0::ze g8 [.gp q 0]::ze g7 [.int .i64 0]::ze g6 [.nilP]::zaw q m (List.replicate k [])::R) G4:=h8
   have h9:Sep (FrA b1 k 0::zaw q m (List.replicate k [])::ze g8 [.gp q 0]::ze g7 [.int .i64 0]::ze g6 [.nilP]::HmA hb q mr k::MpA mr []::SlA 1 .nilS []::R) G4:=h8.perm pp
   obtain ⟨u1,cap1,h10⟩:=Sep.fr h9
   refine goS trivial ?_
   refine goR trivial ?_
   refine W.weaken (zmv (l':=[(6,.d (.gp g6 0)),(7,.d (.gp g7 0)),(8,.d (.gp g8 0)),(11,.d (.gp hb 0)),(86,.d (.clo f_zz15 [.gp b1 0]))]) (by (simp -dsimp (disch:=first|omega|(simp only [go_sem];omega)) only [go_sem,seval,Nat.reduceEqDiff,Nat.reduceLeDiff]<;>((repeat' apply And.intro)<;>first|exact VLe.refl _|(apply zb1;omega)|(apply zb1;simp;done)|exact VLe.own _ _|exact VLe.nilown _|exact VLe.norm _)))) ?_
   refine W.rangeF (caps:=[.gp b1 0]) (zcc zz15_cp) goD fun l hlm=>?_
   have h11:=Sep.newM (o:=(.loop Try.prog (E [(6,.d (.gp g6 0)),(7,.d (.gp g7 0)),(8,.d (.gp g8 0)),(11,.d (.gp hb 0)),(86,.d (.clo f_zz15 [.gp b1 0]))]) [87] zck zcl)) hlm h10
   refine (zoe b1 u1 k 0 cap1 hn h1 (Nat.zero_le _) l
    (fun i G'=>Sep (zmr l (.loop Try.prog (E [(6,.d (.gp g6 0)),(7,.d (.gp g7 0)),(8,.d (.gp g8 0)),(11,.d (.gp hb 0)),(86,.d (.clo f_zz15 [.gp b1 0]))]) [87] zck zcl)::ze b1 [.gs u1 0 k cap1]::SlA 1 (.gs u1 0 k cap1) (uL k 0)::zaw q m (List.replicate k [])::ze g8 [.gp q 0]::ze g7 [.int .i64 0]::ze g6 [.nilP]::HmA hb q mr k::MpA mr []::SlA 1 .nilS []::R) G') _ _ h11 (fun i G' h=>⟨_,h.tail⟩) (fun i G' hi _=>absurd hi (Nat.not_lt_zero _)) ?_).mono ?_
   · rintro i G' _ hi2 h σ'
     have hsd:=Sep.dropM h
     have hml:(G'.setM l none).m l=none:=by simp [upd]
     refine zgt fol h.getM rfl (zgv _ [(6,.gp g6 0),(7,.gp g7 0),(8,.gp g8 0),(11,.gp hb 0)] 87 (.int .i64 i) (by simp [E])) ?_
     generalize G'.setM l none=G9 at hsd hml ⊢
     have hsg:=ziz q m (List.replicate k []) (by omega) i (by rw [List.length_replicate];omega)
     rw [List.getElem_replicate,if_pos rfl] at hsg
     have hq:Sep (zaw q m (List.replicate k [])::ze g8 [.gp q 0]::ze b1 [.gs u1 0 k cap1]::SlA 1 (.gs u1 0 k cap1) (uL k 0)::ze g7 [.int .i64 0]::ze g6 [.nilP]::HmA hb q mr k::MpA mr []::SlA 1 .nilS []::R) G9:=hsd.perm pp
     have c8:=hq.tail.get
     refine goS trivial ?_
     refine goR c8 ?_
     (refine goM (hsg) (hq) ?_)
     rintro _ _ G2 ⟨rfl,rfl⟩ h3
     have h3:Sep (zaw q m (List.replicate k [])::ze g8 [.gp q 0]::ze b1 [.gs u1 0 k cap1]::SlA 1 (.gs u1 0 k cap1) (uL k 0)::ze g7 [.int .i64 0]::ze g6 [.nilP]::HmA hb q mr k::MpA mr []::SlA 1 .nilS []::R) G2:=h3
     refine goS trivial ?_
     refine goR trivial ?_
     exact fun hm2=>⟨rfl,rfl,(Sep.newM (o:=(.loop Try.prog (E [(6,.d (.gp g6 0)),(7,.d (.gp g7 0)),(8,.d (.gp g8 0)),(11,.d (.gp hb 0)),(86,.d (.clo f_zz15 [.gp b1 0]))]) [87] zck zcl)) (r:=l) hm2 h3).perm pp⟩
   · rintro r σ' G' ⟨rfl,hJ⟩
     refine ⟨rfl,.inl ⟨hJ.getM,?_⟩⟩
     have hsd:=Sep.dropM hJ
     generalize G'.setM l none=G9 at hsd ⊢
     have hq:Sep (ze g7 [.int .i64 0]::ze g6 [.nilP]::HmA hb q mr k::zaw q m (List.replicate k [])::MpA mr []::ze b1 [.gs u1 0 k cap1]::SlA 1 (.gs u1 0 k cap1) (uL k 0)::ze g8 [.gp q 0]::SlA 1 .nilS []::R) G9:=hsd.perm pp
     have c7:=hq.get
     have c6:=hq.tail.get
     have hne:=Sep.ne hq
     have u1':=zdi hne
     have u2':=zdi hne.symm
     have hA:=hq.swap.set (cs':=[.gp hb 0])
     have hB:=hA.swap.set (cs':=[.int .i64 0])
     refine goS trivial ?_
     refine goR (nn c6 (nn c7 (nn u1' u2'))) ?_
     (apply Fin.eq;(focus (simp -dsimp (disch:=first|omega|(simp only [go_sem];omega)) only [go_sem,seval,Nat.reduceEqDiff,Nat.reduceLeDiff,u1',u2']<;>rfl)))
     exact ⟨rfl,_,⟨hb,rfl,rfl⟩,Sep.of_hs0 (hB.tail.tail.cons fun _ h=>h.cons fun _ h=>h.cons fun _ h=>h.tail.tail.tail.tail)⟩
theorem zoc (n:Nat) (h1:1≤n) (hn:n≤250) :
 zt Try.prog f_zz17 [.int .i64 n] [] (fun r post=>∃ hb pd,r=.tup [.gp hb 0,.gp pd 0,.bool true]∧post=[HsA hb n 1000 none]):=by
 refine zj fol zz17_cp fun R G σ hs=>?_
 have hs:Sep R G:=hs
 have hnw:=z1c (2 * n) (by omega) (by omega)
 have e2:(2 * (n:Int)).toNat=2 * n:=by omega
 rw [e2] at hnw
 refine goS trivial ?_
 refine goR trivial ?_
 (refine goM (hnw) ((show Sep ([]++R) G from hs)) ?_)
 rintro _ _ G2 ⟨pd,rfl,rfl⟩ h2
 have h2:Sep (zaa pd (zdb (2 * n))::R) G2:=h2
 refine goS trivial ?_
 refine goR trivial ?_
 (refine goM (zpf pd (zdb (2 * n)) 0 (lvF (by omega) (by omega)) (by omega) (by omega) n h1 hn (by simp [zdb])) (h2) ?_)
 rintro _ _ G3 ⟨rfl,d',hd',rfl⟩ h3
 have h3:Sep (zaa pd d'::R) G3:=h3
 refine goS trivial ?_
 refine goR trivial ?_
 (refine goM (ztu pd d' _ n hd' (by omega) h1 hn) (h3) ?_)
 rintro _ _ G4 ⟨hb,rfl,rfl⟩ h4
 have h4:Sep (HsA hb n (0+2 * (n:Int)+1) none::R) G4:=h4
 refine goS trivial ?_
 refine goR trivial ?_
 exact Fin.eq rfl ⟨rfl,_,⟨hb,pd,rfl,rfl⟩,Sep.hs_mono (by omega) h4⟩
def xL (n k:Nat):List D:=List.replicate k (.int .u8 120)++List.replicate (n - k) (.int .u8 0)
theorem zj3 {n k:Nat} (h:k≤n):(xL n k).length=n:=by simp [xL];omega
theorem zrr (n k:Nat):∀ x∈xL n k,x.cells=[x]∧za 1 x=true:=by
 intro x hx
 simp only [xL,List.mem_append,List.mem_replicate] at hx
 rcases hx with ⟨_,rfl⟩|⟨_,rfl⟩<;>exact ⟨rfl,rfl⟩
theorem zvb (n k:Nat):(xL n k).all (za 1)=true:=List.all_eq_true.2 fun x hx=>(zrr n k x hx).2
theorem zi0:∀ l:List D,(∀ x∈l,x.cells=[x])→flat l=l
 | [],_=>rfl
 | x::l,h=>by rw [zw,h x List.mem_cons_self,zi0 l fun y hy=>h y (List.mem_cons_of_mem _ hy)];rfl
theorem z1k {n k:Nat} (h:k<n):(xL n k).set k (.int .u8 120)=xL n (k+1):=by
 unfold xL
 rw [List.set_append_right _ _ (by simp),List.length_replicate,Nat.sub_self]
 obtain ⟨j,hj⟩:∃ j,n - k=j+1:=⟨n - k - 1,by omega⟩
 have e:n - (k+1)=j:=by omega
 rw [hj,e,List.replicate_succ,List.set_cons_zero,List.replicate_succ',List.append_assoc]
 rfl
theorem z6q {n:Nat}:Row 1 n n (xL n 0) (xL n 0):=by
 have h:=Row.mk' (sz:=1) (n:=n) (cap:=n) (es:=xL n 0) (rest:=[]) (zj3 (Nat.zero_le _)) (zvb _ _) (Nat.le_refl _) (by rw [List.append_nil,zo (zvb _ _),zj3 (Nat.zero_le _)];exact Nat.le_refl _)
 rw [List.append_nil,zi0 _ fun x hx=>(zrr n 0 x hx).1] at h
 exact h
theorem zw9 (n:Nat) (h1:1≤n) (hn:n≤1000):zt Try.prog f_zz22 [.int .i64 n] [] (fun r post=>r=.d (.str (List.replicate n 120))∧post=[]):=by
 refine zj fol zz22_cp fun R G σ hs=>?_
 have hs:Sep R G:=hs
 refine goS trivial ?_
 refine goR trivial ?_
 refine zlh (by omega) ?_
 refine zat fun u hu=>?_
 have e1:rep (n:Int).toNat [D.int .u8 0]=xL n 0:=by simp [rep,xL]
 have e2:(n:Int).toNat=n:=rfl
 rw [e1,e2]
 have h2:=Sep.toSl (Sep.new hu hs) (z6q (n:=n))
 generalize G.set u (some (xL n 0))=G2 at h2 ⊢
 refine goS trivial ?_
 refine goR trivial ?_
 refine W.loop (fun z st=>∃ (k:Nat) (G:Gh),k≤n∧z=n - k∧Sep (SlA 1 (.gs u 0 n n) (xL n k)::R) G ∧
  st=(E [(3,.d (.gs u 0 n n)),(8,.d (.int .i64 n)),(9,.d (.int .i64 k))],HB [],σ,G))
  ⟨_,_,zgr,0,G2,by omega,rfl,h2,rfl⟩ ?_
 rintro z st ⟨k,G3,hk,rfl,h3,rfl⟩
 obtain ⟨bu,capu,csu,hxu,hbu,hrowu⟩:=(Sep.gv h3).inv (by intro h;have:=congrArg List.length h;rw [zj3 hk] at this;simp at this;omega)
 rw [zj3 hk] at hxu hrowu
 cases hxu
 refine goR trivial ?_
 refine zdt (fun h4=>?_) (fun h4=>?_)
 · have hk':k<n:=by omega
   have hfit:k * 1+1≤csu.length:=hrowu.fits (i:=k) (by rw [zj3 hk];omega)
   refine goR (nn hbu (nn hfit hk')) ?_
   have zma:=hrowu.set (i:=k) (x:=.int .u8 120) (by rw [zj3 hk];omega) rfl
   rw [z1k hk'] at zma
   have hA:Sep (SlA 1 (.gs u 0 n n) (xL n (k+1))::R) (G3.set u (some (List.take (k * 1) csu++[D.int .u8 120]++List.drop (k * 1+1) csu))):=Sep.slSet h3 zma
   exact zgg.mk ⟨n - (k+1),_,by omega,zgr,k+1,_,by omega,rfl,hA,rfl⟩
 · obtain rfl:k=n:=by omega
   have hv:=(Sep.gv h3).view
   have hf:flat (xL k k)=(List.replicate k 120).map eB:=by
    rw [zi0 _ fun x hx=>(zrr k k x hx).1]
    simp [xL,eB]
   rw [hf] at hv
   have hb:=zqu hv (zdr _)
   refine goR trivial ?_
   refine goS hb ?_
   refine goR trivial ?_
   exact Fin.eq rfl ⟨rfl,_,⟨rfl,rfl⟩,h3.tail⟩
theorem ztv (a:Ask) (u v:List D):za2 Try.prog f_zz18 [eA a u v] (·=.d (.bool (decide (a.b.length≤450∧u.length≤210∧v.length≤210)))):=by
 refine zan fol zz18_cp ?_
 refine goS trivial ?_
 (refine goX trivial ?_;(repeat' (with_reducible apply Br.mk<;>intro _)))
 all_goals exact Fin.p rfl (by first|exact dF (by omega)|exact dT (by omega))
theorem zxa (r:Rf):za2 Try.prog f_zz11 [.list [eRf r],.list [eRf r]] (·=.d (.bool true)):=by
 refine zan fol zz11_cp ?_
 have hi:zhf 4 (some (.list [eRf r])) (.d (.int .i64 0))=some (.cptr [.int .i64 r.k,.int .i64 r.o,.int .i64 r.n,.int .i64 r.p]):=zil 4 [eRf r] _ 0 rfl (by decide) (by simp)
 refine goS trivial ?_
 refine goR trivial ?_
 refine W.loop (fun z st=>∃ b:Bool,z=(if b then 0 else 1)∧st=(E [(0,.d (.list [eRf r])),(1,.d (.list [eRf r])),(5,.d (.int .i64 (if b then 1 else 0)))],HB [],[],noGh)) ⟨_,_,zgr,false,rfl,rfl⟩ ?_
 rintro z st ⟨b,rfl,rfl⟩
 cases b with
 | false =>
  refine goR hi ?_
  exact zgg.mk ⟨0,_,by simp,zgr,true,rfl,rfl⟩
 | true =>
  refine goR trivial ?_
  exact Fin.p rfl rfl
end Go.Proofs.Ytailhmffljoojaa
