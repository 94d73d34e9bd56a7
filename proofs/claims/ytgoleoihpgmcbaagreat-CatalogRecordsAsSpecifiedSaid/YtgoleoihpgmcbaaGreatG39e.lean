/-
 Layer 39 (catalog),continued: Check; the last tick of an object.
 Conditions: of each contract as it says.
-/
import Derived.Test.YtgoleoihpgmcbaaGreatG39c
namespace Go.Proofs.YtgoleoihpgmcbaaGreat
open Go Go.E2 C39
set_option linter.unusedSimpArgs false
theorem blk_mid (pre σ0:List Hp) (H:Hp) (s g:Nat):blk (pre ++ H::σ0) pre.length s g=if (H s).g=g then (H s).c else none:=by
 simp [blk]
theorem get_mid (pre σ0:List Hp) (H:Hp):(pre ++ H::σ0)[pre.length]?=some H:=by simp
theorem set_mid (pre σ0:List Hp) (H H':Hp):(pre ++ H::σ0).set pre.length H'=pre ++ H'::σ0:=by simp
theorem runs_all {S:Type} (p:En→Bool) (s:S):∀ l,runs (fun s x=>(s,p x)) s l=(s,l.all p)
 | []=>rfl
 | x::r=>by
   rw [runs,runs_all p s r]
   cases h:p x<;>simp [h]
theorem mem_consist {l:List En} {x:En}:consist (l ++ [x])↔consist l∧∀ y ∈ l,y.obj=x.obj→y.last=x.last:=by
 constructor
 · intro h
   exact ⟨fun a ha b hb=>h a (by simp [ha]) b (by simp [hb]),fun y hy e=>h y (by simp [hy]) x (by simp) e⟩
 · rintro ⟨h1,h2⟩ a ha b hb e
   rcases List.mem_append.1 ha with ha1|ha1<;>rcases List.mem_append.1 hb with hb1|hb1
   · exact h1 a ha1 b hb1 e
   · obtain rfl:=List.mem_singleton.1 hb1; exact h2 a ha1 e
   · obtain rfl:=List.mem_singleton.1 ha1; exact (h2 b hb1 e.symm).symm
   · obtain rfl:=List.mem_singleton.1 ha1; obtain rfl:=List.mem_singleton.1 hb1; rfl
def stepM (m:List (Int × Int)) (x:En):List (Int × Int) × Bool:=(mput m x.obj x.last,decide (mget m x.obj=none∨mget m x.obj=some x.last))
structure Seen (m:List (Int × Int)) (l:List En):Prop where
 cons:consist l
 get:∀ x ∈ l,mget m x.obj=some x.last
 only:∀ a v,mget m a=some v→∃ x ∈ l,x.obj=a∧x.last=v
theorem consist_sub {l l':List En} (h:consist (l ++ l')):consist l:=fun a ha b hb=>h a (by simp [ha]) b (by simp [hb])
theorem runs_cons:∀ (l:List En) {m:List (Int × Int)} {seen:List En},Seen m seen→((runs stepM m l).2=true↔consist (seen ++ l))
 | [],m,seen,h=>by simp [runs,h.cons]
 | x::r,m,seen,h=>by
   have hx:(stepM m x).2=true↔consist (seen ++ [x]):=by
    rw [mem_consist]
    simp only [stepM,decide_eq_true_eq]
    constructor
    · intro hg
      refine ⟨h.cons,fun y hy e=>?_⟩
      have:=h.get y hy
      rw [e] at this
      rcases hg with hg|hg
      · rw [hg] at this; cases this
      · rw [hg] at this; exact (Option.some.inj this).symm
    · rintro ⟨-,h2⟩
      cases hg:mget m x.obj with
      | none=>exact .inl rfl
      | some v =>
       obtain ⟨y,hy,e1,e2⟩:=h.only _ _ hg
       have:=h2 y hy e1
       right; rw [← e2,this]
   rw [runs]
   by_cases hc:(stepM m x).2=true
   · rw [if_pos hc]
     have hs:Seen (stepM m x).1 (seen ++ [x]):=by
      have hcon:=hx.1 hc
      refine ⟨hcon,fun y hy=>?_,fun a v hg=>?_⟩
      · show mget (mput m x.obj x.last) y.obj=_
        rw [mget_put]
        split
        · rename_i e
          rw [hcon y hy x (by simp) e]
        · rename_i e
          rcases List.mem_append.1 hy with hy|hy
          · exact h.get y hy
          · obtain rfl:=List.mem_singleton.1 hy; exact (e rfl).elim
      · have hg:mget (mput m x.obj x.last) a=some v:=hg
        rw [mget_put] at hg
        split at hg
        · rename_i e; cases hg; exact ⟨x,by simp,e.symm,rfl⟩
        · obtain ⟨y,hy,e⟩:=h.only a v hg
          exact ⟨y,by simp [hy],e⟩
     have:=runs_cons r hs
     rw [List.append_assoc] at this
     exact this
   · rw [if_neg hc]
     refine ⟨fun e=>by simp at e,fun h'=>(hc (hx.2 ?_)).elim⟩
     rw [show seen ++ x::r=(seen ++ [x]) ++ r by simp] at h'
     exact consist_sub h'
abbrev cC (c:Ct):List D:=[eI c.now,.list (c.ents.map eE),.list (c.snaps.map eS)]
theorem Check1_step (c:Ct) (σ0:List Hp) (H0:Hp) (G0:Gh) (hH:H0 1=⟨1,some (cC c)⟩):StepOk f_zz54 [(1,1)] σ0 (fun _=>True) (fun (_:Unit) H G=>H=H0∧G=G0) (fun s x=>(s,decide (c.now≤x.last))):=by
 rintro pre s x H G ⟨rfl,rfl⟩ -
 refine callT_of_W fol zz54_cp ?_
 have hb:blk (pre ++ H::σ0) pre.length 1 1=some (cC c):=by rw [blk_mid,hH]; rfl
 simp only [capsP,List.map_cons,List.map_nil]
 refine goS trivial ?_
 refine goR hb ?_
 exact Fin.eq rfl ⟨_,rfl,rfl,rfl,rfl⟩
theorem Check2_step (σ0:List Hp) (H0:Hp) (r0:Nat) (hH:H0 7=⟨1,some [.mref r0]⟩):StepOk f_zz55 [(7,1)] σ0 (fun _=>True) (fun m H G=>H=H0∧MapL [.i] eI eI G r0 m) stepM:=by
 rintro pre m x H G ⟨rfl,hm⟩ -
 refine callT_of_W fol zz55_cp ?_
 have hb:blk (pre ++ H::σ0) pre.length 7 1=some [.mref r0]:=by rw [blk_mid,hH]; rfl
 have hlook:=hm.look2 (.int .i64 0) x.obj
 simp only [capsP,List.map_cons,List.map_nil]
 refine goS trivial ?_
 cases hg:mget m x.obj with
 | none =>
  simp only [hg,Option.map_none,Option.getD_none,Option.isSome_none] at hlook
  refine goR (nn hb hlook) ?_
  refine wGd_put (emb:=eI) (vf:=eI) hm x.obj x.last fun M hM=>?_
  refine goS trivial ?_
  refine goR hb ?_
  exact Fin.eq rfl ⟨_,rfl,by simp [stepM,hg],rfl,hM⟩
 | some v =>
  simp only [hg,Option.map_some,Option.getD_some,Option.isSome_some] at hlook
  refine goR (nn hb hlook) ?_
  refine wGd_put (emb:=eI) (vf:=eI) hm x.obj x.last fun M hM=>?_
  refine goS trivial ?_
  refine goR hb ?_
  exact Fin.eq rfl ⟨_,rfl,by simp [stepM,hg],rfl,hM⟩
theorem Check_ok (c:Ct) (hs:smallC c):CallP Tryz.prog f_zz74 [eC c] (·=.d (eI (chk c))):=by
 refine CallP.of_deep (callT_of_W fol zz74_cp ?_)
 obtain ⟨s1,s2,s3⟩:=id hs
 refine goS trivial ?_
 (refine goX2 trivial (within_ok c.now 1000000) (listed_ok c.ents (by omega)) ?_; (repeat' (with_reducible apply Br.mk<;>intro _)))
 all_goals try
  (refine Fin.eq rfl ⟨rfl,_,.refl _,iE ?_⟩
   first
    | (rw [chk,if_pos (by omega)]; done)
    | (rw [chk,if_neg (by omega),if_pos (by omega)]; done)
    | (rw [chk,if_neg (by omega),if_neg (by omega),if_pos (by assumption)]; done))
 rename_i n1 n2 e2 hls
 have hls:listedC c.ents=0:=Classical.not_not.1 hls
 refine W.loop (fun m st=>∃ k b5,k≤c.snaps.length∧m=c.snaps.length - k∧snsErr none c.snaps=snsErr (prevS c k) (c.snaps.drop k) ∧
  st=(E [(1,.ptr 0 1 1 0),(30,.d (.list (c.snaps.map eS))),(31,.d (eI c.snaps.length)),(32,.d (eI k))],HB [(1,⟨1,some (cC c)⟩),(5,b5)],[],noGh))
  ⟨_,_,stleB (HB_pad [(1,_)] [5] rfl).symm,0,_,by omega,rfl,rfl,rfl⟩ ?_
 rintro m st ⟨k,b5,hk,rfl,hi,rfl⟩
 refine goR trivial ?_
 refine wG_dec (fun h1=>?_) (fun h1=>?_)
 · have hk':k < c.snaps.length:=by omega
   rw [sns_step hk'] at hi
   have ha:=above_iff hk' c.snaps[k].snap
   have hlk:=s3 _ (List.getElem_mem hk')
   have e1:((k:Int) - 1).toNat=k - 1:=by omega
   (refine goX2 e1 (listed_ok c.snaps[k].ents (by omega)) (within_ok c.snaps[k].snap 1099511627776) ?_; (repeat' (with_reducible apply Br.mk<;>intro _)))
   all_goals try
    (have hz:=snErr_l (p:=prevS c k) (s:=c.snaps[k]) (by assumption)
     rw [hz,if_pos (by assumption)] at hi
     exact Fin.eq rfl ⟨rfl,_,.refl _,iE (by rw [chk_sns (by omega) (by omega) (by omega) (by omega) hls (by rw [hi]; assumption),hi])⟩)
   all_goals have hz:listedC c.snaps[k].ents=0:=Classical.not_not.1 (by assumption)
   all_goals first
    | (refine Fin.eq rfl ⟨rfl,_,.refl _,iE ?_⟩
       have hz2:snErr (prevS c k) c.snaps[k]=1:=snErr_a hz (by rw [ha]; first|omega|(right; right; intro h; have:=h (by omega); omega))
       rw [hz2,if_pos (by decide)] at hi
       rw [chk_sns (by omega) (by omega) (by omega) (by omega) hls (by rw [hi]; decide),hi]
       done)
    | (have hz2:snErr (prevS c k) c.snaps[k]=0:=snErr_0 hz (by omega) (by omega) (ha.2 fun h0=>by first|(exfalso; omega)|omega)
       rw [hz2,if_neg (by decide)] at hi
       refine ⟨_,_,?_,stleB rfl,k + 1,_,hk',rfl,hi,rfl⟩
       omega)
 · obtain rfl:k=c.snaps.length:=by omega
   rw [drop_end] at hi
   have hall:=all_len hs
   rw [chk_tail (by omega) (by omega) (by omega) (by omega) hls hi]
   refine goR trivial ?_
   apply wC_cap (each_ok (Check1_step c [] (HB [(1,⟨1,some (cC c)⟩),(5,b5)]) noGh rfl) c hs (fun _ _=>trivial) [] () _ noGh ⟨rfl,rfl⟩)
   focus (simp -dsimp (disch:=first|omega|(simp only [go_sem]; omega)) only [go_sem,seval,Nat.reduceEqDiff,Nat.reduceLeDiff]<;>rfl)
   focus (simp -dsimp (disch:=first|omega|(simp only [go_sem]; omega)) only [go_sem,seval,Nat.reduceEqDiff,Nat.reduceLeDiff]<;>rfl)
   rintro r lv G' ⟨H',rfl,rfl,rfl,rfl⟩
   refine ⟨_,_,rfl,?_⟩
   rw [runs_all]
   have hdead:(((),(allE c).all fun x=>decide (c.now≤x.last)).2)=decide (¬ dead c):=by
    rw [Bool.eq_iff_iff,decide_eq_true_eq,List.all_eq_true]
    constructor
    · rintro h ⟨x,hx,hl⟩
      have:=of_decide_eq_true (h x hx)
      omega
    · intro h x hx
      refine decide_eq_true ?_
      by_cases hl:x.last < c.now
      · exact (h ⟨x,hx,hl⟩).elim
      · omega
   rw [hdead]
   refine goS trivial ?_
   (refine goX trivial ?_; (repeat' (with_reducible apply Br.mk<;>intro _)))
   · rename_i hd
     exact Fin.eq rfl ⟨rfl,_,.refl _,iE (by rw [tailC,if_pos (Classical.not_not.1 hd)])⟩
   rename_i hd
   have hd:¬ dead c:=by simpa using hd
   rw [tailC,if_neg hd]
   refine wNewM_mk fun r0 hr0=>?_
   refine goS trivial ?_
   refine goR trivial ?_
   apply wC_cap (each_ok (Check2_step [] (HB [(1,⟨1,some (cC c)⟩),(5,b5),(7,⟨1,some [.mref r0]⟩)]) r0 rfl) c hs (fun _ _=>trivial) [] [] _ _ ⟨rfl,MapL.new (keyE_int _)⟩)
   focus (simp -dsimp (disch:=first|omega|(simp only [go_sem]; omega)) only [go_sem,seval,Nat.reduceEqDiff,Nat.reduceLeDiff]<;>rfl)
   focus (simp -dsimp (disch:=first|omega|(simp only [go_sem]; omega)) only [go_sem,seval,Nat.reduceEqDiff,Nat.reduceLeDiff]<;>rfl)
   rintro r lv G' ⟨H',rfl,rfl,rfl,-⟩
   refine ⟨_,_,rfl,?_⟩
   have hcon:(runs stepM [] (allE c)).2=decide (consist (allE c)):=by
    rw [Bool.eq_iff_iff,decide_eq_true_eq]
    exact runs_cons (allE c) (seen:=[]) ⟨by simp [consist],by simp,by simp [mget]⟩
   rw [hcon]
   refine goS trivial ?_
   (refine goX trivial ?_; (repeat' (with_reducible apply Br.mk<;>intro _)))
   · rename_i hd
     exact Fin.eq rfl ⟨rfl,_,.refl _,iE (by rw [if_neg hd])⟩
   · rename_i hd
     exact Fin.eq rfl ⟨rfl,_,.refl _,iE (by rw [if_pos (Classical.not_not.1 hd)])⟩
end Go.Proofs.YtgoleoihpgmcbaaGreat
/-
 Layer 39 (catalog),continued: the last tick of an object; catalogs of few entries.
 Conditions: of each contract as it says.
-/
namespace Go.Proofs.YtgoleoihpgmcbaaGreat
open Go Go.E2 C39
set_option linter.unusedSimpArgs false
def stepO (n:Int) (v:Int) (x:En):Int × Bool:=(if x.obj=n then x.last else v,decide ((if x.obj=n then x.last else v) < 0))
def fO (c:Ct) (n v:Int):List (Nat × Blk):=[(2,⟨1,some (cC c)⟩),(3,⟨1,some [eI n]⟩),(5,⟨1,some [eI v]⟩)]
theorem object_step (c:Ct) (n:Int) (σ0:List Hp) (G0:Gh):StepOk f_zz48 [(3,1),(5,1)] σ0 (fun _=>True) (fun v H G=>H=HB (fO c n v)∧G=G0) (stepO n):=by
 rintro pre v x H G ⟨rfl,rfl⟩ -
 refine callT_of_W fol zz48_cp ?_
 have hb3:blk (pre ++ HB (fO c n v)::σ0) pre.length 3 1=some [eI n]:=by rw [blk_mid]; rfl
 have hb5:blk (pre ++ HB (fO c n v)::σ0) pre.length 5 1=some [eI v]:=by rw [blk_mid]; rfl
 simp only [capsP,List.map_cons,List.map_nil]
 refine goS trivial ?_
 (refine goX (nn hb3 hb5) ?_; (repeat' (with_reducible apply Br.mk<;>intro _)))
 · rename_i he
   refine ⟨_,get_mid _ _ _,?_⟩
   rw [set_mid,upd_HB]
   have hb6:blk (pre ++ HB (hset (fO c n v) 5 ⟨1,some [eI x.last]⟩)::σ0) pre.length 5 1=some [eI x.last]:=by rw [blk_mid]; rfl
   refine goR hb6 ?_
   exact Fin.eq rfl ⟨_,rfl,by simp [stepO,he],by simp only [stepO,if_pos he]; rfl,rfl⟩
 · rename_i he
   exact Fin.eq rfl ⟨_,rfl,by simp [stepO,he],by simp only [stepO,if_neg he],rfl⟩
theorem runs_obj (n:Int):∀ (l:List En),(∀ x ∈ l,0≤x.last)→∀ v,v < 0→(runs (stepO n) v l).1=if ∃ x ∈ l,x.obj=n then lastOf l n else v
 | [],_,v,_=>by simp [runs]
 | x::r,h,v,hv=>by
   rw [runs]
   have h0:=h x (by simp)
   by_cases e:x.obj=n
   · have e1:(stepO n v x).2=false:=by simp [stepO,e]; omega
     rw [e1,if_neg (by decide),if_pos ⟨x,by simp,e⟩]
     simp [stepO,e,lastOf]
   · have e1:(stepO n v x).2=true:=by simp [stepO,e]; omega
     have e2:(stepO n v x).1=v:=by simp [stepO,e]
     rw [e1,if_pos rfl,e2,runs_obj n r (fun y hy=>h y (by simp [hy])) v hv]
     simp [e,lastOf]
theorem object_ok (c:Ct) (n:Int) (hs:smallC c) (hl:∀ x ∈ allE c,0≤x.last):CallP Tryz.prog f_zz69 [eC c,eI n] (·=.d (eI (lastOf (allE c) n))):=by
 refine callP_of_W fol zz69_cp ?_
 refine goS trivial ?_
 refine goR trivial ?_
 apply wC_cap (each_ok (object_step c n [] noGh) c hs (fun _ _=>trivial) [] (-1) _ noGh ⟨rfl,rfl⟩)
 focus (simp -dsimp (disch:=first|omega|(simp only [go_sem]; omega)) only [go_sem,seval,Nat.reduceEqDiff,Nat.reduceLeDiff]<;>rfl)
 focus (simp -dsimp (disch:=first|omega|(simp only [go_sem]; omega)) only [go_sem,seval,Nat.reduceEqDiff,Nat.reduceLeDiff]<;>rfl)
 rintro r lv G' ⟨H',rfl,rfl,rfl,rfl⟩
 refine ⟨_,_,rfl,?_⟩
 have hr:(runs (stepO n) (-1) (allE c)).1=lastOf (allE c) n:=by
  rw [runs_obj n (allE c) hl (-1) (by decide)]
  split
  · rfl
  · rename_i h
    rw [lastOf_none fun x hx e=>h ⟨x,hx,e⟩]
 rw [hr]
 unfold fO
 refine goS trivial ?_
 refine goR trivial ?_
 exact Fin.p rfl rfl
def fewC (c:Ct):Prop:=c.ents.length≤12∧c.snaps.length≤12∧(∀ s ∈ c.snaps,s.ents.length≤12)∧∀ x ∈ allE c,x.name.length≤70
instance (c:Ct):Decidable (fewC c):=by unfold fewC; infer_instance
theorem fewC.small {c:Ct} (h:fewC c):smallC c:=⟨by have:=h.1; omega,by have:=h.2.1; omega,fun s hs=>by have:=h.2.2.1 s hs; omega⟩
end Go.Proofs.YtgoleoihpgmcbaaGreat
