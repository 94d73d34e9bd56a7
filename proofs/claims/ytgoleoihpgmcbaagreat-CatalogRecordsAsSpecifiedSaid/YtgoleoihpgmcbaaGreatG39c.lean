/-
 Layer 39 (catalog),continued: what is right; a function called for all entries.
 Conditions: of each contract as it says.
-/
import Derived.Test.YtgoleoihpgmcbaaGreatG39a
import Derived.Test.YtgoleoihpgmcbaaGreatS39
namespace Go.Proofs.YtgoleoihpgmcbaaGreat
open Go Go.E2 C39
set_option linter.unusedSimpArgs false
abbrev prevS (c:Ct) (k:Nat):Option Int:=(prevE c.snaps k).map (·.snap)
theorem above_iff {c:Ct} {k:Nat} (h:k < c.snaps.length) (n:Int):above (prevS c k) n↔∀ h0:k ≠ 0,c.snaps[k - 1].snap < n:=by
 unfold above
 by_cases h0:k=0
 · subst h0; simp [prevS,prevE]
 · simp only [prevS,prevE_pos h h0]; simp [h0]
theorem sns_step {c:Ct} {k:Nat} (h:k < c.snaps.length):snsErr (prevS c k) (c.snaps.drop k)=if snErr (prevS c k) c.snaps[k] ≠ 0 then snErr (prevS c k) c.snaps[k] else snsErr (prevS c (k + 1)) (c.snaps.drop (k + 1)):=by
 rw [drop_at h,snsErr]; simp only [prevS,prevE_succ h]; rfl
theorem snErr_l {p:Option Int} {s:Sn} (h:¬ listedC s.ents=0):snErr p s=listedC s.ents:=by rw [snErr,if_pos h]
theorem snErr_a {p:Option Int} {s:Sn} (h:listedC s.ents=0) (h2:s.snap < 0∨1099511627776 < s.snap∨¬ above p s.snap):snErr p s=1:=by rw [snErr,if_neg (by omega),if_pos h2]
theorem snErr_0 {p:Option Int} {s:Sn} (h:listedC s.ents=0) (h0:0≤s.snap) (h1:s.snap≤1099511627776) (h2:above p s.snap):snErr p s=0:=by
 rw [snErr,if_neg (by omega),if_neg]
 rintro (h|h|h)
 · omega
 · omega
 · exact h h2
def tailC (c:Ct):Int:=if dead c then 18 else if consist (allE c) then 0 else 4
theorem chk_tail {c:Ct} (h1:0≤c.now) (h2:c.now≤1000000) (h3:c.ents.length≤200) (h4:c.snaps.length≤10) (h5:listedC c.ents=0) (h6:snsErr none c.snaps=0):chk c=tailC c:=by
 rw [chk,if_neg (by omega),if_neg (by omega),if_neg (by omega),if_neg (by omega)]; rfl
theorem chk_sns {c:Ct} (h1:0≤c.now) (h2:c.now≤1000000) (h3:c.ents.length≤200) (h4:c.snaps.length≤10) (h5:listedC c.ents=0) (h6:¬ snsErr none c.snaps=0):chk c=snsErr none c.snaps:=by
 rw [chk,if_neg (by omega),if_neg (by omega),if_neg (by omega),if_pos h6]
theorem cons_iff {l:List En}:consist l↔∀ k (h:k < l.length),lastOf l l[k].obj=l[k].last:=by
 constructor
 · intro h k hk
   exact lastOf_spec h (List.getElem_mem hk)
 · intro h x hx y hy e
   obtain ⟨i,hi,rfl⟩:=List.getElem_of_mem hx
   obtain ⟨j,hj,rfl⟩:=List.getElem_of_mem hy
   rw [← h i hi,← h j hj,e]
theorem refCheck_ok (c:Ct) (hs:smallC c):CallP Tryz.prog f_zz34 [eC c] (·=.d (eI (chk c))):=by
 refine callP_of_W fol zz34_cp ?_
 obtain ⟨s1,s2,s3⟩:=id hs
 refine goS trivial ?_
 (refine goX1 trivial (refListed_ok c.ents (by omega)) ?_; (repeat' (with_reducible apply Br.mk<;>intro _)))
 all_goals try
  (refine Fin.p rfl (iE ?_)
   first
    | (rw [chk,if_pos (by omega)]; done)
    | (rw [chk,if_neg (by omega),if_pos (by omega)]; done)
    | (rw [chk,if_neg (by omega),if_neg (by omega),if_pos (by assumption)]; done))
 rename_i n1 n2 e1 e2 hls
 have hls:listedC c.ents=0:=Classical.not_not.1 hls
 refine W.loop (fun m st=>∃ k,k≤c.snaps.length∧m=c.snaps.length - k∧snsErr none c.snaps=snsErr (prevS c k) (c.snaps.drop k) ∧
  st=(E [(1,.ptr 0 1 1 0),(4,.d (eI k))],HB [(1,⟨1,some [eI c.now,.list (c.ents.map eE),.list (c.snaps.map eS)]⟩)],[],noGh))
  ⟨_,_,stle,0,by omega,rfl,rfl,rfl⟩ ?_
 rintro m st ⟨k,hk,rfl,hi,rfl⟩
 refine goR trivial ?_
 refine wG_dec (fun h1=>?_) (fun h1=>?_)
 · have hk':k < c.snaps.length:=by omega
   rw [sns_step hk'] at hi
   have ha:=above_iff hk' c.snaps[k].snap
   have hlk:=s3 _ (List.getElem_mem hk')
   have e1:((k:Int) - 1).toNat=k - 1:=by omega
   (refine goX1 e1 (refListed_ok c.snaps[k].ents (by omega)) ?_; (repeat' (with_reducible apply Br.mk<;>intro _)))
   all_goals try
    (have hz:=snErr_l (p:=prevS c k) (s:=c.snaps[k]) (by assumption)
     rw [hz,if_pos (by assumption)] at hi
     exact Fin.p rfl (iE (by rw [chk_sns (by omega) (by omega) (by omega) (by omega) hls (by rw [hi]; assumption),hi])))
   all_goals have hz:listedC c.snaps[k].ents=0:=Classical.not_not.1 (by assumption)
   all_goals first
    | (refine Fin.p rfl (iE ?_)
       have hz2:snErr (prevS c k) c.snaps[k]=1:=snErr_a hz (by rw [ha]; first|(left; omega)|(right; left; omega)|(right; right; intro h; have:=h (by omega); omega))
       rw [hz2,if_pos (by decide)] at hi
       rw [chk_sns (by omega) (by omega) (by omega) (by omega) hls (by rw [hi]; decide),hi]
       done)
    | (have hz2:snErr (prevS c k) c.snaps[k]=0:=snErr_0 hz (by omega) (by omega) (ha.2 fun h0=>by first|(exfalso; omega)|omega)
       rw [hz2,if_neg (by decide)] at hi
       refine ⟨_,_,?_,stle,k + 1,hk',rfl,hi,rfl⟩
       omega)
 · obtain rfl:k=c.snaps.length:=by omega
   rw [drop_end] at hi
   have hall:=all_len hs
   rw [chk_tail (by omega) (by omega) (by omega) (by omega) hls hi]
   refine goR trivial ?_
   (refine goC (All_ok c hs) ?_; refine goS trivial ?_)
   refine goR trivial ?_
   refine W.loop (fun m st=>∃ k,k≤(allE c).length∧m=(allE c).length - k∧(∀ j (h:j < (allE c).length),j < k→¬ (allE c)[j].last < c.now) ∧
    st=(E [(1,.ptr 0 1 1 0),(5,.d (.list ((allE c).map eE))),(6,.d (eI k))],HB [(1,⟨1,some [eI c.now,.list (c.ents.map eE),.list (c.snaps.map eS)]⟩)],[],noGh))
    ⟨_,_,stle,0,by omega,rfl,fun _ _ h=>by omega,rfl⟩ ?_
   rintro m st ⟨k,hk,rfl,hlo,rfl⟩
   refine goR trivial ?_
   refine wG_dec (fun h2=>?_) (fun h2=>?_)
   · have hk':k < (allE c).length:=by omega
     (refine goX trivial ?_; (repeat' (with_reducible apply Br.mk<;>intro _)))
     · rename_i hd
       exact Fin.p rfl (iE (by rw [tailC,if_pos ⟨_,List.getElem_mem hk',hd⟩]))
     · rename_i hd
       refine ⟨_,_,?_,stle,k + 1,hk',rfl,fun j hj hlt=>?_,rfl⟩
       · omega
       · by_cases e:j=k
         · subst e; exact hd
         · exact hlo j hj (by omega)
   · obtain rfl:k=(allE c).length:=by omega
     have hnd:¬ dead c:=by
      rintro ⟨x,hx,hd⟩
      obtain ⟨j,hj,rfl⟩:=List.getElem_of_mem hx
      exact hlo j hj hj hd
     rw [tailC,if_neg hnd]
     refine goR trivial ?_
     refine W.loop (fun m st=>∃ k,k≤(allE c).length∧m=(allE c).length - k∧(∀ j (h:j < (allE c).length),j < k→lastOf (allE c) (allE c)[j].obj=(allE c)[j].last) ∧
      st=(E [(5,.d (.list ((allE c).map eE))),(7,.d (eI k))],HB [(1,⟨1,some [eI c.now,.list (c.ents.map eE),.list (c.snaps.map eS)]⟩)],[],noGh))
      ⟨_,_,stle,0,by omega,rfl,fun _ _ h=>by omega,rfl⟩ ?_
     rintro m st ⟨k,hk,rfl,hlo,rfl⟩
     refine goR trivial ?_
     refine wG_dec (fun h3=>?_) (fun h3=>?_)
     · have hk':k < (allE c).length:=by omega
       (refine goX1 trivial (Last_ok (allE c) (allE c)[k].obj (by omega)) ?_; (repeat' (with_reducible apply Br.mk<;>intro _)))
       · rename_i hd
         exact Fin.p rfl (iE (by rw [if_neg (fun h=>hd (cons_iff.1 h k hk'))]))
       · rename_i hd
         refine ⟨_,_,?_,stle,k + 1,hk',rfl,fun j hj hlt=>?_,rfl⟩
         · omega
         · by_cases e:j=k
           · subst e; omega
           · exact hlo j hj (by omega)
     · obtain rfl:k=(allE c).length:=by omega
       refine goR trivial ?_
       exact Fin.p rfl (iE (by rw [if_pos (cons_iff.2 fun j hj=>hlo j hj hj)]))
end Go.Proofs.YtgoleoihpgmcbaaGreat
/-
 Layer 39 (catalog),continued: a function that is called for all entries.
 Conditions: of each contract as it says.
-/
namespace Go.Proofs.YtgoleoihpgmcbaaGreat
open Go Go.E2 C39
set_option linter.unusedSimpArgs false
theorem wC_cap {P:Program} {d:Option Nat} {f:AO} {args:List AO} {g:FuncId} {caps vs:List AV} {ρ:Env} {L:Hp} {σ:List Hp} {G:Gh} {K:St→Prop} {Q:AV→List Hp→Gh→Prop} {h:Hide K}
 (hc:CallT P g vs (L::σ) G Q) (ht:target (ev ρ f)=some (g,caps)) (hv:(args.map (ev ρ) ++ caps).map sh=vs) (hK:∀ r lv G',Q r lv G'→∃ L' σ',lv=L'::σ'∧K (put ρ d r,L',σ',G')):wC P d f args 0 ρ L σ G h:=by
 show callW P d f args 0 ρ L σ G K
 unfold callW
 rw [ht]
 simp only [if_true]
 rw [hv]
 exact hc.mono fun r lv G' hq=>by
  obtain ⟨L',σ',rfl,hk⟩:=hK r lv G' hq
  exact hk
def capsP (n:Nat) (cs:List (Nat × Nat)):List AV:=cs.map fun p=>.ptr n p.1 p.2 0
def capsF (n:Nat) (cs:List (Nat × Nat)):List (Nat × Nat × Nat):=cs.map fun p=>(n,p.1,p.2)
theorem caps_ev (n:Nat) (cs:List (Nat × Nat)):(capsF n cs).map (fun (k,s,g)=>AV.ptr k s g 0)=capsP n cs:=by simp [capsF,capsP,Function.comp_def]
theorem caps_sh (n:Nat) (cs:List (Nat × Nat)):(capsP n cs).map sh=capsP (n + 1) cs:=by simp [capsP,Function.comp_def,sh]
def StepOk {S:Type} (g:FuncId) (cs:List (Nat × Nat)) (σ0:List Hp) (dom:En→Prop) (R:S→Hp→Gh→Prop) (step:S→En→S × Bool):Prop :=
 ∀ (pre:List Hp) (s:S) (x:En) (H:Hp) (G:Gh),R s H G→dom x→CallT Tryz.prog g (.d (eE x)::capsP (pre.length + 1) cs) (pre ++ H::σ0) G fun r σ' G'=>∃ H',σ'=pre ++ H'::σ0∧r=.d (.bool (step s x).2)∧R (step s x).1 H' G'
def runs {S:Type} (step:S→En→S × Bool):S→List En→S × Bool
 | s,[]=>(s,true)
 | s,x::r=>if (step s x).2=true then runs step (step s x).1 r else ((step s x).1,false)
theorem each_ok {S:Type} {g:FuncId} {cs:List (Nat × Nat)} {σ0:List Hp} {dom:En→Prop} {R:S→Hp→Gh→Prop} {step:S→En→S × Bool} (hst:StepOk g cs σ0 dom R step) (c:Ct) (hs:smallC c) (hd:∀ x ∈ allE c,dom x) (pre:List Hp) (s0:S) (H0:Hp) (G0:Gh) (h0:R s0 H0 G0) :
 CallT Tryz.prog f_zz86 [.d (eC c),.func g (capsF (pre.length + 1) cs)] (pre ++ H0::σ0) G0 fun r σ' G'=>∃ H',σ'=pre ++ H'::σ0∧r=.d (.bool (runs step s0 (allE c)).2)∧R (runs step s0 (allE c)).1 H' G':=by
 refine callT_of_W fol zz86_cp ?_
 obtain ⟨s1,s2,s3⟩:=id hs
 refine goS trivial ?_
 refine goR trivial ?_
 refine W.loop (fun m st=>∃ k s H G b6,k≤c.ents.length∧m=c.ents.length - k∧R s H G∧runs step s0 (allE c)=runs step s (c.ents.drop k ++ (c.snaps.map (·.ents)).flatten) ∧
  st=(E [(1,.func g (capsF (pre.length + 1) cs)),(2,.ptr 0 2 1 0),(12,.d (.list (c.ents.map eE))),(13,.d (eI c.ents.length)),(14,.d (eI k))],HB [(2,⟨1,some [eI c.now,.list (c.ents.map eE),.list (c.snaps.map eS)]⟩),(6,b6)],pre ++ H::σ0,G))
  ⟨_,_,stleB (HB_pad [(2,_)] [6] rfl).symm,0,s0,H0,G0,_,by omega,rfl,h0,by rw [List.drop_zero,allE],rfl⟩ ?_
 rintro m st ⟨k,s,H,G,b6,hk,rfl,hR,hrun,rfl⟩
 refine goR trivial ?_
 refine wG_dec (fun h1=>?_) (fun h1=>?_)
 · have hk':k < c.ents.length:=by omega
   rw [drop_at hk',List.cons_append,runs] at hrun
   refine goR trivial ?_
   apply wC_cap (hst (HB _::pre) s c.ents[k] H G hR (hd _ (mem_all.2 (.inl (List.getElem_mem hk')))))
   focus (simp -dsimp (disch:=first|omega|(simp only [go_sem]; omega)) only [go_sem,seval,Nat.reduceEqDiff,Nat.reduceLeDiff]<;>rfl)
   focus (simp -dsimp (disch:=first|omega|(simp only [go_sem]; omega)) only [go_sem,seval,Nat.reduceEqDiff,Nat.reduceLeDiff,caps_ev,List.map_append,List.map_cons,List.map_nil,List.cons_append,List.nil_append,caps_sh]<;>rfl)
   rintro r lv G' ⟨H',rfl,rfl,hR'⟩
   refine ⟨_,_,rfl,?_⟩
   cases hb:(step s c.ents[k]).2 with
   | true =>
    rw [hb,if_pos rfl] at hrun
    refine goS trivial ?_
    refine goR trivial ?_
    refine ⟨_,_,?_,stleB rfl,k + 1,_,H',G',_,hk',rfl,hR',hrun,rfl⟩
    omega
   | false =>
    rw [hb,if_neg (by decide)] at hrun
    refine goS trivial ?_
    refine goR trivial ?_
    exact Fin.eq rfl ⟨_,rfl,by rw [hrun],by rw [hrun]; exact hR'⟩
 · obtain rfl:k=c.ents.length:=by omega
   rw [drop_end,List.nil_append] at hrun
   refine goR trivial ?_
   refine W.loop (fun m st=>∃ i s H G b6 b8 b10,i≤c.snaps.length∧m=c.snaps.length - i∧R s H G∧runs step s0 (allE c)=runs step s ((c.snaps.drop i).map (·.ents)).flatten ∧
    st=(E [(1,.func g (capsF (pre.length + 1) cs)),(24,.d (.list (c.snaps.map eS))),(25,.d (eI c.snaps.length)),(26,.d (eI i))],HB [(2,⟨1,some [eI c.now,.list (c.ents.map eE),.list (c.snaps.map eS)]⟩),(6,b6),(8,b8),(10,b10)],pre ++ H::σ0,G))
    ⟨_,_,stleB (HB_pad [(2,_),(6,_)] [8,10] rfl).symm,0,s,H,G,_,_,_,by omega,rfl,hR,by rw [List.drop_zero]; exact hrun,rfl⟩ ?_
   clear hrun hR s H G
   rintro m st ⟨i,s,H,G,b6,b8,b10,hi,rfl,hR,hrun,rfl⟩
   refine goR trivial ?_
   refine wG_dec (fun h2=>?_) (fun h2=>?_)
   · have hi':i < c.snaps.length:=by omega
     have hl:=s3 _ (List.getElem_mem hi')
     rw [drop_at hi',List.map_cons,List.flatten_cons] at hrun
     refine goR trivial ?_
     have hmem:∀ x ∈ c.snaps[i].ents,x ∈ allE c:=fun x hx=>mem_all.2 (.inr ⟨_,List.getElem_mem hi',hx⟩)
     generalize c.snaps[i]=sn at hrun hl hmem ⊢
     refine W.loop (fun m st=>∃ k s H G b8 b10,k≤sn.ents.length∧m=sn.ents.length - k∧R s H G∧runs step s0 (allE c)=runs step s (sn.ents.drop k ++ ((c.snaps.drop (i + 1)).map (·.ents)).flatten) ∧
      st=(E [(1,.func g (capsF (pre.length + 1) cs)),(24,.d (.list (c.snaps.map eS))),(25,.d (eI c.snaps.length)),(26,.d (eI i)),(31,.d (.list (sn.ents.map eE))),(32,.d (eI sn.ents.length)),(33,.d (eI k))],HB [(2,⟨1,some [eI c.now,.list (c.ents.map eE),.list (c.snaps.map eS)]⟩),(6,b6),(8,b8),(10,b10)],pre ++ H::σ0,G))
      ⟨_,_,stleB rfl,0,s,H,G,_,_,by omega,rfl,hR,by rw [List.drop_zero]; exact hrun,rfl⟩ ?_
     clear hrun hR s H G
     rintro m st ⟨k,s,H,G,b8,b10,hk,rfl,hR,hrun,rfl⟩
     refine goR trivial ?_
     refine wG_dec (fun h3=>?_) (fun h3=>?_)
     · have hk':k < sn.ents.length:=by omega
       rw [drop_at hk',List.cons_append,runs] at hrun
       refine goR trivial ?_
       apply wC_cap (hst (HB _::pre) s sn.ents[k] H G hR (hd _ (hmem _ (List.getElem_mem hk'))))
       focus (simp -dsimp (disch:=first|omega|(simp only [go_sem]; omega)) only [go_sem,seval,Nat.reduceEqDiff,Nat.reduceLeDiff]<;>rfl)
       focus (simp -dsimp (disch:=first|omega|(simp only [go_sem]; omega)) only [go_sem,seval,Nat.reduceEqDiff,Nat.reduceLeDiff,caps_ev,List.map_append,List.map_cons,List.map_nil,List.cons_append,List.nil_append,caps_sh]<;>rfl)
       rintro r lv G' ⟨H',rfl,rfl,hR'⟩
       refine ⟨_,_,rfl,?_⟩
       cases hb:(step s sn.ents[k]).2 with
       | true =>
        rw [hb,if_pos rfl] at hrun
        refine goS trivial ?_
        refine goR trivial ?_
        refine ⟨_,_,?_,stleB rfl,k + 1,_,H',G',_,_,hk',rfl,hR',hrun,rfl⟩
        omega
       | false =>
        rw [hb,if_neg (by decide)] at hrun
        refine goS trivial ?_
        refine goR trivial ?_
        exact Fin.eq rfl ⟨_,rfl,by rw [hrun],by rw [hrun]; exact hR'⟩
     · obtain rfl:k=sn.ents.length:=by omega
       rw [drop_end,List.nil_append] at hrun
       refine goR trivial ?_
       refine ⟨_,_,?_,stleB rfl,i + 1,s,H,G,_,_,_,hi',rfl,hR,hrun,rfl⟩
       omega
   · obtain rfl:i=c.snaps.length:=by omega
     rw [drop_end] at hrun
     refine goR trivial ?_
     exact Fin.eq rfl ⟨_,rfl,by rw [hrun]; rfl,by rw [hrun]; exact hR⟩
end Go.Proofs.YtgoleoihpgmcbaaGreat
