/-
 Layer 40 (txn): what holds of an element of a list,of a prepared write.
 Conditions: of each contract as it says.
-/
import Derived.Test.YtlejjdbmmdghmaaX1
set_option linter.unusedSimpArgs false
namespace Go.Proofs.Ytlejjdbmmdghmaa
open Go Go.E2 C22 C40
set_option maxHeartbeats 1000000
theorem zvx {β:Type} {N:List (Int×β)} {sn:List Int} (a:Int):(N.filter fun p=>decide (p.1 ∉ sn++[a])).length≤(N.filter fun p=>decide (p.1 ∉ sn)).length:=by
 induction N with
 | nil=>simp
 | cons p N ih =>
  simp only [List.filter_cons]
  split
  · rename_i h1
    rw [if_pos (by simp at h1 ⊢;exact h1.1)]
    simpa using ih
  · split
    · simp only [List.length_cons];omega
    · exact ih
theorem zkf {β:Type} {N:List (Int×β)} {sn:List Int} {a:Int} {v:β} (hm:(a,v)∈N) (hn:a ∉ sn):(N.filter fun p=>decide (p.1 ∉ sn++[a])).length<(N.filter fun p=>decide (p.1 ∉ sn)).length:=by
 induction N with
 | nil=>cases hm
 | cons p N ih =>
  simp only [List.filter_cons]
  rcases List.mem_cons.1 hm with rfl|hm
  · rw [if_neg (by simp),if_pos (by simpa using hn)]
    have:=zvx (N:=N) (sn:=sn) a
    simp only [List.length_cons];omega
  · have:=ih hm
    split
    · rename_i h1
      rw [if_pos (by simp at h1 ⊢;exact h1.1)]
      simpa using this
    · split
      · simp only [List.length_cons];omega
      · exact this
def zpu (x y:Tw):Bool:=decide (y.key=x.key) && !(y.rd && x.rd)
theorem zx8 (b:Nat) (x y:Tw) (G:Gh) (hg:G.c b=some [.int .i64 x.key,.int .i64 x.ver,.str x.val,.bool x.rd]) :
 zjp Try.prog f_zz35 [eTw y,.gp b 0] G (·=.d (.bool (zpu x y))):=by
 intro σ
 refine zbl fol zz35_cp ?_
 unfold zpu
 by_cases h:y.key=x.key
 · cases hy:y.rd<;>cases hx:x.rd
   all_goals
    rw [hx] at hg
    refine goS hy ?_
    (refine goX (nn hg (nn h hy)) ?_;(repeat' (with_reducible apply Br.mk<;>intro _)))
    exact Fin.eq rfl ⟨rfl,rfl,by simp [h]⟩
 · refine goS trivial ?_
   (refine goX (nn hg h) ?_;(repeat' (with_reducible apply Br.mk<;>intro _)))
   exact Fin.eq rfl ⟨rfl,rfl,by simp [h]⟩
def ixP (p:Tw→Bool):List Tw→Nat→Int
 | [],_=>-1
 | x::l,i=>if p x then (i:Int) else ixP p l (i+1)
theorem zpv (p:Tw→Bool):∀ (l:List Tw) (i:Nat),decide (0≤ixP p l i)=l.any p
 | [],_=>rfl
 | x::l,i=>by
   unfold ixP
   cases hp:p x with
   | true=>simp [hp]
   | false=>simp only [Bool.false_eq_true,if_false];rw [zpv p l (i+1)];simp [hp]
theorem zvy (g:FuncId) (ds:List D) (G:Gh) (p:Tw→Bool) (l:List Tw) (hL:l.length≤9223372036854775807) (hp:∀ x∈l,zjp Try.prog g ([eTw x]++ds) G (·=.d (.bool (p x)))) :
 zjp Try.prog f_zz3 [eL l,.clo g ds] G (·=.d (.int .i64 (ixP p l 0))):=by
 intro σ
 refine zbl fol zz3_cp ?_
 have hall:=zep l
 refine goS trivial ?_
 refine goR trivial ?_
 refine W.loop (fun m st=>∃ (i:Nat),m+i=l.length∧ixP p (l.drop i) i=ixP p l 0 ∧
  st=(E [(0,.d (eL l)),(1,.d (.clo g ds)),(7,.d (.int .i64 (l.length:Nat))),(8,.d (.int .i64 (i:Nat)))],HB [],σ,G))
  ⟨_,_,zca,0,rfl,rfl,rfl⟩ ?_
 rintro m st ⟨i,hi,he,rfl⟩
 by_cases hlt:i<l.length
 · have hlt':(i:Int)<(l.length:Int):=by omega
   have hpx:=hp _ (List.getElem_mem hlt)
   rw [List.drop_eq_getElem_cons hlt,ixP] at he
   (refine goX (nn hlt' hall) ?_;(repeat' (with_reducible apply Br.mk<;>intro _)))
   refine goK (vs:=[eTw l[i]]) (cs:=ds) hpx ?_
   cases hb:p l[i] with
   | true =>
    rw [hb,if_pos rfl] at he
    rw [← he]
    refine goS trivial ?_
    refine goR trivial ?_
    exact Fin.eq rfl ⟨rfl,rfl,rfl⟩
   | false =>
    rw [hb,if_neg (by simp)] at he
    refine goS trivial ?_
    refine goR trivial ?_
    exact ⟨m - 1,_,by omega,zca,i+1,by omega,he,rfl⟩
 · have:i=l.length:=by omega
   subst this
   rw [List.drop_length] at he
   have hx:((l.length:Int)<(l.length:Int))=False:=eq_false (by omega)
   (refine goX hx ?_;(repeat' (with_reducible apply Br.mk<;>intro _)))
   rw [← he]
   exact Fin.eq rfl ⟨rfl,rfl,rfl⟩
end Go.Proofs.Ytlejjdbmmdghmaa
namespace Go.Proofs.Ytlejjdbmmdghmaa
open Go Go.E2 C22 C40
set_option maxHeartbeats 1000000
theorem zod (g:FuncId) (ds:List D) (G:Gh) (p:Tw→Bool) (l:List Tw) (hL:l.length≤9223372036854775807) (hp:∀ x∈l,zjp Try.prog g ([eTw x]++ds) G (·=.d (.bool (p x)))) :
 zjp Try.prog f_zz1 [eL l,.clo g ds] G (·=.d (.bool (l.any p))):=by
 intro σ
 refine zbl fol zz1_cp ?_
 have h:=zvy g ds G p l hL hp
 have ha:=zpv p l 0
 generalize ixP p l 0=k at h ha
 refine goS trivial ?_
 refine goR trivial ?_
 (refine goQ (h) ?_;refine goS trivial ?_)
 refine goR trivial ?_
 rw [← ha]
 exact Fin.eq rfl ⟨rfl,rfl,rfl⟩
theorem zvz (g:FuncId) (ds:List D) (pre:List As) (p:Tw→Bool) (l:List Tw) (hL:l.length≤9223372036854775807) (hp:∀ x∈l,zy Try.prog g (ds++[eTw x]) pre (fun r post=>r=.d (.bool (p x))∧post=pre)) :
 zy Try.prog f_zz3 [eL l,.bnd g ds] pre (fun r post=>r=.d (.int .i64 (ixP p l 0))∧post=pre):=by
 refine zf fol zz3_cp fun R G σ hs=>?_
 have hall:=zep l
 refine goS trivial ?_
 refine goR trivial ?_
 refine W.loop (fun m st=>∃ (i:Nat) (G:Gh),m+i=l.length∧ixP p (l.drop i) i=ixP p l 0∧Sep (pre++R) G ∧
  st=(E [(0,.d (eL l)),(1,.d (.bnd g ds)),(7,.d (.int .i64 (l.length:Nat))),(8,.d (.int .i64 (i:Nat)))],HB [],σ,G))
  ⟨_,_,zca,0,G,rfl,rfl,hs,rfl⟩ ?_
 rintro m st ⟨i,G1,hi,he,hs1,rfl⟩
 by_cases hlt:i<l.length
 · have hlt':(i:Int)<(l.length:Int):=by omega
   have hpx:=hp _ (List.getElem_mem hlt)
   rw [List.drop_eq_getElem_cons hlt,ixP] at he
   (refine goX (nn hlt' hall) ?_;(repeat' (with_reducible apply Br.mk<;>intro _)))
   refine z3i (g:=g) (xs:=ds) (vs:=[eTw l[i]]) hpx hs1 (.inl rfl) ⟨by simp -dsimp (disch:=first|omega|(simp only [go_sem];omega)) only [go_sem,seval,Nat.reduceEqDiff,Nat.reduceLeDiff],by simp -dsimp (disch:=first|omega|(simp only [go_sem];omega)) only [go_sem,seval,Nat.reduceEqDiff,Nat.reduceLeDiff]⟩ ?_
   rintro _ _ G2 ⟨rfl,rfl⟩ hs2
   cases hb:p l[i] with
   | true =>
    rw [hb,if_pos rfl] at he
    rw [← he]
    refine goS trivial ?_
    refine goR trivial ?_
    exact Fin.eq rfl ⟨rfl,_,⟨rfl,rfl⟩,hs2⟩
   | false =>
    rw [hb,if_neg (by simp)] at he
    refine goS trivial ?_
    refine goR trivial ?_
    exact ⟨m - 1,_,by omega,zca,i+1,_,by omega,he,hs2,rfl⟩
 · have:i=l.length:=by omega
   subst this
   rw [List.drop_length] at he
   have hx:((l.length:Int)<(l.length:Int))=False:=eq_false (by omega)
   (refine goX hx ?_;(repeat' (with_reducible apply Br.mk<;>intro _)))
   rw [← he]
   exact Fin.eq rfl ⟨rfl,_,⟨rfl,rfl⟩,hs1⟩
theorem zoe (g:FuncId) (ds:List D) (pre:List As) (p:Tw→Bool) (l:List Tw) (hL:l.length≤9223372036854775807) (hp:∀ x∈l,zy Try.prog g (ds++[eTw x]) pre (fun r post=>r=.d (.bool (p x))∧post=pre)) :
 zy Try.prog f_zz1 [eL l,.bnd g ds] pre (fun r post=>r=.d (.bool (l.any p))∧post=pre):=by
 refine zf fol zz1_cp fun R G σ hs=>?_
 have ha:=zpv p l 0
 refine goS trivial ?_
 refine goR trivial ?_
 (refine goM (zvz g ds pre p l hL hp) (hs) ?_)
 rintro _ _ G2 ⟨rfl,rfl⟩ hs2
 generalize ixP p l 0=k at ha ⊢
 rw [← ha]
 refine goS trivial ?_
 refine goR trivial ?_
 exact Fin.eq rfl ⟨rfl,_,⟨rfl,rfl⟩,hs2⟩
theorem zrf {β:Type} {m:List (Int×β)} (h:(m.map (·.1)).Nodup) {x y:Int×β} (hx:x∈m) (hy:y∈m) (e:x.1=y.1):x=y:=by
 obtain ⟨i,hi,rfl⟩:=List.getElem_of_mem hx
 obtain ⟨j,hj,rfl⟩:=List.getElem_of_mem hy
 have:=(List.getElem_inj (h₀:=by simpa using hi) (h₁:=by simpa using hj) h).1 (by simpa using e)
 subst this;rfl
def zhf (ws:List (Int×Wr)) (x:Tw):Bool:=ws.any fun p=>p.2.l.any (zpu x)
def z1d (ws:List (Int×Wr)):Prop:=∀ p∈ws,p.2.l.length≤1000
theorem z1e (sb q mr n:Nat) (ws:List (Int×Wr)) (hw:z1d ws) (x:Tw) :
 zy Try.prog f_zz43 [.gp sb 0,eTw x] [SiA sb q mr n,MwA mr ws] (fun r post=>r=.d (.bool (zhf ws x))∧post=[SiA sb q mr n,MwA mr ws]):=by
 refine zf fol zz43_cp fun R G σ hs=>?_
 refine goS trivial ?_
 refine goR trivial ?_
 refine zam fun b3 hb3=>?_
 have hs1:Sep (ze b3 [.int .i64 x.key,.int .i64 x.ver,.str x.val,.bool x.rd]::SiA sb q mr n::MwA mr ws::R) (G.set b3 (some [.int .i64 x.key,.int .i64 x.ver,.str x.val,.bool x.rd])):=Sep.new hb3 hs
 generalize G.set b3 (some [D.int .i64 x.key,.int .i64 x.ver,.str x.val,.bool x.rd])=G1 at hs1 ⊢
 have hg1:=Sep.get (b:=sb) (cs:=[eSt q,.int .i64 n,.mref mr]) hs1.tail
 refine goS trivial ?_
 refine goR hg1 ?_
 have hs2:Sep (MwA mr ws::ze b3 [.int .i64 x.key,.int .i64 x.ver,.str x.val,.bool x.rd]::SiA sb q mr n::R) G1:=hs1.perm pp
 refine zlx (Sep.map hs2) fun it X hit hr=>?_
 have hs3:=Sep.rngNew hs2 hit hr
 generalize G1.setM it (some X)=G2 at hs3 ⊢
 refine goS trivial ?_
 refine goR trivial ?_
 refine W.loop (fun z st=>∃ (sn:List Int) (b6:Blk) (G:Gh),z=(ws.filter fun p=>decide (p.1 ∉ sn)).length∧(∀ p∈ws,p.1∈sn→p.2.l.any (zpu x)=false) ∧
  Sep (zs1 [.i] eI eWr mr it ws sn::ze b3 [.int .i64 x.key,.int .i64 x.ver,.str x.val,.bool x.rd]::SiA sb q mr n::R) G ∧
  st=(E [(0,.d (.gp sb 0)),(3,.d (.gp b3 0)),(11,.d (.gp it 0))],HB [(6,b6)],σ,G))
  ⟨_,_,zt (zdr [] [6] rfl).symm,[],_,G2,rfl,by simp,hs3,rfl⟩ ?_
 rintro z st ⟨sn,b6,G4,rfl,hno,hs4,rfl⟩
 refine goR trivial ?_
 refine zly (Sep.rngl hs4) (fun hall=>?_) (fun a v X' hav hns hr' hent=>?_)
 · have e:zhf ws x=false:=by
    unfold zhf
    rw [List.any_eq_false]
    intro p hp
    rw [hno p hp (hall p hp)];simp
   rw [e]
   have hs5:Sep (SiA sb q mr n::MwA mr ws::R) G4:=((Sep.rngEnd hs4).perm pp:Sep (ze b3 [.int .i64 x.key,.int .i64 x.ver,.str x.val,.bool x.rd]::SiA sb q mr n::MwA mr ws::R) G4).tail
   refine goS trivial ?_
   (refine goX trivial ?_;(repeat' (with_reducible apply Br.mk<;>intro _)))
   exact Fin.eq rfl ⟨rfl,_,⟨rfl,rfl⟩,hs5⟩
 · have hs5:=Sep.rngSet (.inr rfl) hs4 hr'
   generalize G4.setM it (some X')=G5 at hs5 hent ⊢
   have hc:=hs5.tail.get
   have hcon:=zod f_zz35 [.gp b3 0] G5 (zpu x) v.l (by have:=hw _ hav;simp only at this;omega) (fun y _=>zx8 b3 x y G5 hc)
   refine goS hent ?_
   refine goR hent ?_
   refine goQ hcon ?_
   cases hb:v.l.any (zpu x) with
   | true =>
    have e:zhf ws x=true:=by
     unfold zhf
     rw [List.any_eq_true]
     exact ⟨(a,v),hav,hb⟩
    rw [e]
    have hs6:Sep (SiA sb q mr n::MwA mr ws::R) G5:=((Sep.rngEnd hs5).perm pp:Sep (ze b3 [.int .i64 x.key,.int .i64 x.ver,.str x.val,.bool x.rd]::SiA sb q mr n::MwA mr ws::R) G5).tail
    refine goS trivial ?_
    (refine goX trivial ?_;(repeat' (with_reducible apply Br.mk<;>intro _)))
    exact Fin.eq rfl ⟨rfl,_,⟨rfl,rfl⟩,hs6⟩
   | false =>
    refine goS trivial ?_
    (refine goX trivial ?_;(repeat' (with_reducible apply Br.mk<;>intro _)))
    refine ⟨_,_,zkf hav hns,zt rfl,sn++[a],_,G5,rfl,fun p hp hps=>?_,hs5,rfl⟩
    rcases List.mem_append.1 hps with h|h
    · exact hno p hp h
    · have hnd:=(Sep.rngl hs5).nodup
      have:p=(a,v):=by
       have e1:p.1=a:=List.mem_singleton.1 h
       exact zrf hnd hp hav e1
      rw [this];exact hb
theorem zqe (sb q mr n:Nat) (ws:List (Int×Wr)) (b:Nat) (s:Int) :
 zy Try.prog f_zz50 [.gp sb 0,.clo f_zz16 [.gp b 0]] [SiA sb q mr n,MwA mr ws,ze b [.int .i64 s]]
  (fun r post=>r=.d (.bool (ws.any fun p=>decide (p.2.slot=s)))∧post=[SiA sb q mr n,MwA mr ws,ze b [.int .i64 s]]):=by
 refine zf fol zz50_cp fun R G σ hs=>?_
 have hs1:Sep (SiA sb q mr n::MwA mr ws::ze b [.int .i64 s]::R) G:=hs
 have hg1:=Sep.get (b:=sb) (cs:=[eSt q,.int .i64 n,.mref mr]) hs1
 refine goS trivial ?_
 refine goR hg1 ?_
 have hs2:Sep (MwA mr ws::ze b [.int .i64 s]::SiA sb q mr n::R) G:=hs1.perm pp
 refine zlx (Sep.map hs2) fun it X hit hr=>?_
 have hs3:=Sep.rngNew hs2 hit hr
 generalize G.setM it (some X)=G2 at hs3 ⊢
 refine goS trivial ?_
 refine goR trivial ?_
 refine W.loop (fun z st=>∃ (sn:List Int) (b6:Blk) (G:Gh),z=(ws.filter fun p=>decide (p.1 ∉ sn)).length∧(∀ p∈ws,p.1∈sn→p.2.slot≠s) ∧
  Sep (zs1 [.i] eI eWr mr it ws sn::ze b [.int .i64 s]::SiA sb q mr n::R) G ∧
  st=(E [(1,.d (.clo f_zz16 [.gp b 0])),(11,.d (.gp it 0))],HB [(6,b6)],σ,G))
  ⟨_,_,zt (zdr [] [6] rfl).symm,[],_,G2,rfl,by simp,hs3,rfl⟩ ?_
 rintro z st ⟨sn,b6,G4,rfl,hno,hs4,rfl⟩
 refine goR trivial ?_
 refine zly (Sep.rngl hs4) (fun hall=>?_) (fun a v X' hav hns hr' hent=>?_)
 · have e:(ws.any fun p=>decide (p.2.slot=s))=false:=by
    rw [List.any_eq_false]
    intro p hp
    simpa using hno p hp (hall p hp)
   rw [e]
   have hs5:Sep (SiA sb q mr n::MwA mr ws::ze b [.int .i64 s]::R) G4:=(Sep.rngEnd hs4).perm pp
   refine goS trivial ?_
   (refine goX trivial ?_;(repeat' (with_reducible apply Br.mk<;>intro _)))
   exact Fin.eq rfl ⟨rfl,_,⟨rfl,rfl⟩,hs5⟩
 · have hs5:=Sep.rngSet (.inr rfl) hs4 hr'
   generalize G4.setM it (some X')=G5 at hs5 hent ⊢
   have hc:=hs5.tail.get
   have hcl:zjp Try.prog f_zz16 [eWr v,.gp b 0] G5 (·=.d (.bool (decide (v.slot=s)))):=by
    intro σ
    refine zbl fol zz16_cp ?_
    refine goS trivial ?_
    refine goR hc ?_
    exact Fin.eq rfl ⟨rfl,rfl,rfl⟩
   refine goS hent ?_
   refine goR hent ?_
   refine goK (vs:=[eWr v]) (cs:=[.gp b 0]) hcl ?_
   by_cases hb:v.slot=s
   · have e:(ws.any fun p=>decide (p.2.slot=s))=true:=by
      rw [List.any_eq_true]
      exact ⟨(a,v),hav,by simpa using hb⟩
     rw [e,decide_eq_true hb]
     have hs6:Sep (SiA sb q mr n::MwA mr ws::ze b [.int .i64 s]::R) G5:=(Sep.rngEnd hs5).perm pp
     refine goS trivial ?_
     (refine goX trivial ?_;(repeat' (with_reducible apply Br.mk<;>intro _)))
     exact Fin.eq rfl ⟨rfl,_,⟨rfl,rfl⟩,hs6⟩
   · rw [decide_eq_false hb]
     refine goS trivial ?_
     (refine goX trivial ?_;(repeat' (with_reducible apply Br.mk<;>intro _)))
     refine ⟨_,_,zkf hav hns,zt rfl,sn++[a],_,G5,rfl,fun p hp hps=>?_,hs5,rfl⟩
     rcases List.mem_append.1 hps with h|h
     · exact hno p hp h
     · have hnd:=(Sep.rngl hs5).nodup
       have:p=(a,v):=by
        have e1:p.1=a:=List.mem_singleton.1 h
        exact zrf hnd hp hav e1
       rw [this];exact hb
theorem zx9 (l:List Tw) (hl:l≠[]) (hl2:l.length≤1000):zb2 Try.prog f_zz4 [eL l] (·=.d (eL l)):=by
 refine zdf fol zz4_cp ?_
 have hall:=zep l
 refine goS trivial ?_
 (refine goX hall ?_;(repeat' (with_reducible apply Br.mk<;>intro _)))
 refine zzo fun t ht=>?_
 have:t=false:=ht (by simpa using hl)
 subst this
 have hap:zan 4 40 (.own 4 []) (eL l)=some (.own 4 (l.map eTw)):=by
  rw [zjq 4 40 _ _ (by decide) (by rw [za0,List.length_map];simp only [List.length_nil,Nat.zero_add];omega),hall];rfl
 refine goS trivial ?_
 (refine goX hap ?_;(repeat' (with_reducible apply Br.mk<;>intro _)))
 exact Fin.ple rfl (.own _ _ _ (.inl rfl)) rfl
end Go.Proofs.Ytlejjdbmmdghmaa
