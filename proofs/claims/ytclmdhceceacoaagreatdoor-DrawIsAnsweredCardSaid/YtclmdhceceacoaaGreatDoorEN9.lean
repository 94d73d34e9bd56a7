/-
 A slice that may change,lent inside a struct to a call that only reads.
 Conditions: none; definitions and laws.
-/
import Derived.Test.YtclmdhceceacoaaGreatDoorEN6
namespace Go.E2
inductive LendD (G:Gh):D→D→Prop
 | refl (x:D):LendD G x x
 | nil:LendD G .nilS (.list [])
 | gs (b off n cap sz:Nat) (cs es:List D) (hb:G b=some cs) (hfit:off + n * sz≤cs.length) (hn:es.length=n) (hsz:es.all (sizeOk sz)=true) (he:flat es=(cs.drop off).take (n * sz)):LendD G (.gs b off n cap) (.list es)
 | agg (xs ys:List D) (hl:ys.length=xs.length) (h:∀ (j:Nat) (x y:D),xs[j]?=some x→ys[j]?=some y→LendD G x y):LendD G (.agg xs) (.agg ys)
def LendsD (G:Gh) (xs ys:List D):Prop:=ys.length=xs.length∧∀ (j:Nat) (x y:D),xs[j]?=some x→ys[j]?=some y→LendD G x y
theorem LendsD.nil {G:Gh}:LendsD G [] []:=⟨rfl,fun j x y h=>by simp at h⟩
theorem LendsD.cons {G:Gh} {x y:D} {xs ys:List D} (h:LendD G x y) (hs:LendsD G xs ys):LendsD G (x::xs) (y::ys):=by
 refine ⟨by simp [hs.1],fun j u v a b=>?_⟩
 cases j with
 | zero=>simp at a b; subst a; subst b; exact h
 | succ j=>exact hs.2 j u v (by simpa using a) (by simpa using b)
theorem LendsD.agg {G:Gh} {xs ys:List D} (h:LendsD G xs ys):LendD G (.agg xs) (.agg ys):=LendD.agg xs ys h.1 h.2
theorem GV.lendD {sz:Nat} {G:Gh} {x:D} {es:List D} (h:GV sz G x es):LendD G x (.list es):=by
 cases h with
 | nil=>exact .nil
 | row b cap es cs hb hr=>exact .gs b 0 es.length cap sz cs es hb (by have:=hr.ncs; omega) rfl hr.all (by rw [List.drop_zero,hr.eq])
theorem LendD.one {G:Gh} {x y:D} (h:LendD G x y):y.one=x.one:=by cases h<;>rfl
theorem LendD.vrd {G:Gh} {S S1:Stb} (hsub:Sub S S1) (hg:∀ b cs,G b=some cs→∃ vs,VRDs S cs vs∧∀ (j:Nat) (u:Value),vs[j]?=some u→S1 ⟨b,j,none⟩=some u) {x y:D} (h:LendD G x y):∀ {v:Value},VRD S x v→VRD S1 y v:=by
 induction h with
 | refl=>exact fun ha=>VRD.mono hsub ha
 | nil=>exact fun ha=>(VRD.mono hsub ha).le (.inr rfl)
 | gs b off n cap sz cs es hb hfit hn hsz hes =>
  intro v ha
  obtain ⟨vs,hvc,hS⟩:=hg b cs hb
  obtain ⟨hav,hnc⟩:v=.slice (some ⟨b,off,none⟩) n cap∧n≤cap:=by
   cases ha; rename_i hh; exact ⟨rfl,hh⟩
  rw [hav]
  rw [← hn]
  refine VRD.list_mk (c:=(vs.drop off).take (n * sz)) rfl (by rw [hn]; exact hnc) hsz (by rw [hes]; exact ((hvc.drop _).take _).mono hsub) fun j u hj=>?_
  rw [List.getElem?_take] at hj
  split at hj
  · rw [List.getElem?_drop] at hj; exact hS _ _ hj
  · cases hj
 | agg xs ys hl h ih =>
  intro v hx
  obtain ⟨us,rfl,hus,ho⟩:=hx.agg_inv
  refine .agg ys us (by rw [hl]; simpa using hus.1) ?_ fun j y u hy hu=>?_
  · rw [List.all_eq_true] at ho ⊢
    intro y hy
    obtain ⟨j,hj⟩:=List.getElem?_of_mem hy
    have hlt:j < xs.length:=by rw [← hl]; exact (List.getElem?_eq_some_iff.1 hj).1
    have hx:xs[j]?=some xs[j]:=List.getElem?_eq_getElem hlt
    rw [(h j _ y hx hj).one]
    exact ho _ (List.getElem_mem hlt)
  · have hlt:j < xs.length:=by rw [← hl]; exact (List.getElem?_eq_some_iff.1 hy).1
    have hx:xs[j]?=some xs[j]:=List.getElem?_eq_getElem hlt
    exact ih j _ y hx hy (hus.2 j _ u hx (by simpa using hu))
open Classical in
theorem CallP.lend2 {P:Program} {f:FuncId} {xs ys:List D} {Q:AV→Prop} (h:CallP P f ys Q) {G:Gh} (hl:LendsD G xs ys) (hf:∀ r,Q r→flatA r=true) (σ:List Hp):CallT P f (xs.map .d) σ G fun r σ' G'=>σ'=σ∧G'=G∧Q r:=by
 intro S ms w args m0 hsz hrel hargs hown
 let S1:Stb:=fun ad=>if (G ad.block).isSome∧ad.spot=none then w.cell? ad else S ad
 have hsub1:Sub S S1:=by
  intro ad v hs
  simp only [S1]
  split
  · exact hrel.sub _ _ hs
  · exact hs
 have hrel1:RelH S1 [] [] noGh w:=by
  refine ⟨fun ad v hs=>?_,rfl,fun ⟨x,m,h1,_⟩=>by simp at h1,fun ⟨x,m,h1,_⟩=>by simp at h1,fun ⟨x,m,h1,_⟩=>by simp at h1,fun h=>(by cases h),fun h=>(by cases h),fun h=>(by cases h),RelX.none,hrel.tab.mono fun ad v hs=>by
   simp only [S1]
   split
   · exact hrel.sub _ _ hs
   · exact hs⟩
  simp only [S1] at hs
  split at hs
  · exact hs
  · exact hrel.sub _ _ hs
 refine (h S1 [] w args m0 (by simp only [List.length_map] at hsz ⊢; rw [hsz,hl.1]) hrel1 (fun i=>?_) ofL_not_own).mono fun v w' ⟨S',r,σ',G',⟨h1,h2,hQ⟩,hr,he,_,hret,_⟩=>?_
 · have ha:=hargs i
   rcases ofL_d (xs:=ys) (i:=i) with e|⟨y,hy,e⟩
   · rw [e]; trivial
   · rw [e]
     have hi:i < xs.length:=by rw [← hl.1]; exact (List.getElem?_eq_some_iff.1 hy).1
     have hx:xs[i]?=some xs[i]:=List.getElem?_eq_getElem hi
     have e':ofL (xs.map .d) i=.d xs[i]:=by simp [ofL,List.getD_eq_getElem?_getD,hx]
     rw [e'] at ha
     have hle:=hl.2 i _ y hx hy
     generalize xs[i]=x at ha hle
     refine LendD.vrd hsub1 (fun b cs hb=>?_) hle ha
     obtain ⟨c0,e0,hc0,hvc,hone⟩:=hrel.gbox hb
     refine ⟨c0.toList,hvc,fun j u hj=>?_⟩
     have hG:(G b).isSome=true:=by rw [hb]; rfl
     simp only [S1,hG,and_self,if_true]
     simpa [World.cell?,hc0] using hj
 · subst h1; subst h2
   obtain ⟨he',hk⟩:=he.all (O:=outer σ ms G)
   let S2:Stb:=fun ad=>if ad.block < w.heap.size then S ad else S' ad
   have hS2:∀ ad,ad.block < w.heap.size→S2 ad=S ad:=fun ad hb=>by simp only [S2,if_pos hb]
   have hsub2:Sub S S2:=fun ad v hs=>by rw [hS2 ad (hrel.S_lt hs)]; exact hs
   have hcell:∀ ad v,S2 ad=some v→w'.cell? ad=some v:=by
    intro ad v hs
    simp only [S2] at hs
    split at hs
    · rename_i hb
      have:=hrel.sub _ _ hs
      simpa [World.cell?,hk _ hb] using this
    · exact hr.sub _ _ hs
   refine ⟨S2,r,σ,G,⟨rfl,rfl,hQ⟩,hrel.kept hk hcell hsub2 hS2,⟨he.sz,fun b hb _=>hk b hb,hS2,hsub2,he.os,he.tape,he.out⟩,Shape.refl _,?_,OldG.refl _ _ _ _⟩
   have hfr:=hf r hQ
   cases r with
   | d x=>exact VRD.flat hret hfr
   | own sz es =>
    obtain ⟨R,ho,hR⟩:=hret
    refine ⟨R,?_,fun g hg=>⟨(hR g hg).1,?_⟩⟩
    · cases R with
      | none =>
       obtain rfl:es=[]:=by simpa [flatA] using hfr
       exact ⟨ho.1,by obtain ⟨a,rfl⟩:=ho.1; exact .empty rfl,rfl⟩
      | some g =>
       have hgb:=(hR g rfl).1
       obtain ⟨cap,cur,e,q1,q2,q3,q4,q5,q6,q7,q8,q9⟩:=ho
       have hS':∀ off sp,S2 ⟨g,off,sp⟩=S' ⟨g,off,sp⟩:=fun off sp=>by
        have hn:¬ (g < w.heap.size):=by omega
        simp only [S2,if_neg hn]
       refine ⟨cap,cur,e,q1,q2,q3,q4,q5,q6,⟨q7.1,fun j x v a b=>(q7.2 j x v a b).flat ?_⟩,fun j u hj=>by rw [hS']; exact q8 j u hj,fun off sp ho=>by rw [hS']; exact q9 off sp ho⟩
       obtain rfl:es=[]:=by simpa [flatA] using hfr
       simp [flat] at a
    · cases hG:G g with
      | none=>rfl
      | some cs=>have:=hrel.g_lt hG; have:=(hR g hg).1; omega
   | tup zs =>
    obtain ⟨vs,e,h3⟩:=hret
    refine ⟨vs,e,h3.1,fun j x v a b=>(h3.2 j x v a b).flat ?_⟩
    simp only [flatA,List.all_eq_true] at hfr
    exact hfr x (List.mem_of_getElem? a)
   | _=>exact hret
end Go.E2
/-
 Slices that may change,in whatever depth: lent to a call that only reads; and plain data when a call is over.
 Conditions: none; definitions and laws.
-/
namespace Go.E2
inductive DR (G:Nat→Option (List D)):D→D→Prop
 | refl (x:D):DR G x x
 | nil:DR G .nilS (.list [])
 | gs (b off n cap sz:Nat) (cs es:List D) (hb:G b=some cs) (hfit:off + n * sz≤cs.length) (hn:es.length=n) (hsz:es.all (sizeOk sz)=true)
    (h:∀ (j:Nat) (x y:D),((cs.drop off).take (n * sz))[j]?=some x→(flat es)[j]?=some y→DR G x y):DR G (.gs b off n cap) (.list es)
 | agg (xs ys:List D) (hl:ys.length=xs.length) (h:∀ (j:Nat) (x y:D),xs[j]?=some x→ys[j]?=some y→DR G x y):DR G (.agg xs) (.agg ys)
 | list (xs ys:List D) (hl:ys.length=xs.length) (hc:(flat ys).length=(flat xs).length) (sz:Nat) (hsz:ys.all (sizeOk sz)=true) (h:∀ (j:Nat) (x y:D),(flat xs)[j]?=some x→(flat ys)[j]?=some y→DR G x y):DR G (.list xs) (.list ys)
theorem DR.one {G:Nat→Option (List D)} {x y:D} (h:DR G x y):y.one=x.one:=by cases h<;>rfl
def DRs (G:Nat→Option (List D)) (xs ys:List D):Prop:=ys.length=xs.length∧∀ (j:Nat) (x y:D),xs[j]?=some x→ys[j]?=some y→DR G x y
theorem DRs.nil {G:Nat→Option (List D)}:DRs G [] []:=⟨rfl,fun j x y h=>by simp at h⟩
theorem DRs.cons {G:Nat→Option (List D)} {x y:D} {xs ys:List D} (h:DR G x y) (hs:DRs G xs ys):DRs G (x::xs) (y::ys):=by
 refine ⟨by simp [hs.1],fun j u v a b=>?_⟩
 cases j with
 | zero=>simp at a b; subst a; subst b; exact h
 | succ j=>exact hs.2 j u v (by simpa using a) (by simpa using b)
theorem DRs.refl {G:Nat→Option (List D)} (xs:List D):DRs G xs xs:=⟨rfl,fun j x y a b=>by rw [a] at b; cases b; exact .refl _⟩
theorem DRs.append {G:Nat→Option (List D)} {xs ys xs' ys':List D} (h:DRs G xs ys) (h':DRs G xs' ys'):DRs G (xs ++ xs') (ys ++ ys'):=by
 refine ⟨by simp [h.1,h'.1],fun j x y a b=>?_⟩
 by_cases hj:j < xs.length
 · rw [List.getElem?_append_left hj] at a
   rw [List.getElem?_append_left (by rw [h.1]; exact hj)] at b
   exact h.2 j x y a b
 · rw [List.getElem?_append_right (by omega)] at a
   rw [List.getElem?_append_right (by rw [h.1]; omega),h.1] at b
   exact h'.2 _ x y a b
theorem DRs.agg {G:Nat→Option (List D)} {xs ys:List D} (h:DRs G xs ys):DR G (.agg xs) (.agg ys):=.agg xs ys h.1 h.2
theorem GV.dr {sz:Nat} {G:Gh} {x:D} {es:List D} (h:GV sz G x es):DR G.c x (.list es):=by
 cases h with
 | nil=>exact .nil
 | row b cap es cs hb hr=>exact .gs b 0 es.length cap sz cs es hb (by have:=hr.ncs; omega) rfl hr.all (fun j x y a c=>by
    rw [List.drop_zero,hr.eq,c] at a; cases a; exact .refl _)
theorem DR.vrd {G:Nat→Option (List D)} {S S1:Stb} (hsub:Sub S S1) (hg:∀ b cs,G b=some cs→∃ vs,VRDs S cs vs∧∀ (j:Nat) (u:Value),vs[j]?=some u→S1 ⟨b,j,none⟩=some u) {x y:D} (h:DR G x y):∀ {v:Value},VRD S x v→VRD S1 y v:=by
 induction h with
 | refl=>exact fun ha=>VRD.mono hsub ha
 | nil=>exact fun ha=>(VRD.mono hsub ha).le (.inr rfl)
 | gs b off n cap sz cs es hb hfit hn hsz h ih =>
  intro v ha
  obtain ⟨vs,hvc,hS⟩:=hg b cs hb
  obtain ⟨hav,hnc⟩:v=.slice (some ⟨b,off,none⟩) n cap∧n≤cap:=by
   cases ha; rename_i hh; exact ⟨rfl,hh⟩
  rw [hav]
  rw [← hn]
  have hvc':=(hvc.drop off).take (n * sz)
  have hfl:=flat_length hsz
  refine VRD.list_mk (c:=(vs.drop off).take (n * sz)) rfl (by rw [hn]; exact hnc) hsz ⟨?_,fun j y u hy hu=>?_⟩ fun j u hj=>?_
  · rw [hvc'.1,hfl,hn,List.length_take,List.length_drop]
    omega
  · have hlt:j < ((cs.drop off).take (n * sz)).length:=by rw [← hvc'.1]; exact (List.getElem?_eq_some_iff.1 hu).1
    have hx:=List.getElem?_eq_getElem hlt
    exact ih j _ y hx hy (hvc'.2 j _ u hx hu)
  · rw [List.getElem?_take] at hj
    split at hj
    · rw [List.getElem?_drop] at hj; exact hS _ _ hj
    · cases hj
 | agg xs ys hl h ih =>
  intro v hx
  obtain ⟨us,rfl,hus,ho⟩:=hx.agg_inv
  refine .agg ys us (by rw [hl]; simpa using hus.1) ?_ fun j y u hy hu=>?_
  · rw [List.all_eq_true] at ho ⊢
    intro y hy
    obtain ⟨j,hj⟩:=List.getElem?_of_mem hy
    have hlt:j < xs.length:=by rw [← hl]; exact (List.getElem?_eq_some_iff.1 hj).1
    have hx:xs[j]?=some xs[j]:=List.getElem?_eq_getElem hlt
    rw [(h j _ y hx hj).one]
    exact ho _ (List.getElem_mem hlt)
  · have hlt:j < xs.length:=by rw [← hl]; exact (List.getElem?_eq_some_iff.1 hy).1
    have hx:xs[j]?=some xs[j]:=List.getElem?_eq_getElem hlt
    exact ih j _ y hx hy (hus.2 j _ u hx (by simpa using hu))
 | list xs ys hl hc sz hsz h ih =>
  intro v hx
  rcases (VRD.mono hsub hx).list_inv with ⟨rfl,rfl⟩|⟨a,cap,c,rfl,hsp,hcap,_,hcv,hcS⟩
  · have:ys=[]:=List.eq_nil_of_length_eq_zero (by simpa using hl)
    subst this
    exact .nilL
  · rcases hx.list_inv with ⟨rfl,e⟩|⟨a',cap',c',e,hsp',hcap',_,hcv',hcS'⟩
    · cases e
    · cases e
      rw [← hl]
      refine VRD.list_mk' (c:=c') hsp (by rw [hl]; exact hcap) hsz ⟨by rw [hcv'.1,hc],fun j y u hy hu=>?_⟩ fun j u hj=>hsub _ _ (hcS' j u hj)
      have hlt:j < (flat xs).length:=by rw [← hc]; exact (List.getElem?_eq_some_iff.1 hy).1
      have hx:(flat xs)[j]?=some (flat xs)[j]:=List.getElem?_eq_getElem hlt
      exact ih j _ y hx hy (hcv'.2 j _ u hx hu)
inductive DRA (G:Nat→Option (List D)):AV→AV→Prop
 | refl (x:AV):DRA G x x
 | d (x y:D) (h:DR G x y):DRA G (.d x) (.d y)
 | tup (xs ys:List D) (h:DRs G xs ys):DRA G (.tup xs) (.tup ys)
def isNew (G:Gh) (b:Nat):Bool:=(G.c b).isNone && (G.m b).isNone
def oldC (G G':Gh):Gh:=⟨fun b=>if isNew G b=true then none else G'.c b,G'.m,by
 obtain ⟨N,h⟩:=G'.fin
 exact ⟨N,fun b hb=>⟨by split; rfl; exact (h b hb).1,(h b hb).2⟩⟩⟩
def newC (G G':Gh):Nat→Option (List D):=fun b=>if isNew G b=true then G'.c b else none
theorem newC_noGh (G':Gh):newC noGh G'=G'.c:=rfl
open Classical in
theorem CallT.deep {P:Program} {f:FuncId} {vs:List AV} {σ:List Hp} {G:Gh} {Q Q2:AV→List Hp→Gh→Prop} (h:CallT P f vs σ G Q)
 (hq:∀ r σ' G',Q r σ' G'→∃ r2,DRA (newC G G') r r2∧Q2 r2 σ' (oldC G G')):CallT P f vs σ G Q2:=by
 intro S ms w args m0 hsz hrel hargs hown
 refine (h S ms w args m0 hsz hrel hargs hown).mono fun v w' ⟨S',r,σ',G',hQ,hr,he,hsh,hret,hG⟩=>?_
 obtain ⟨r2,hd,h2⟩:=hq r σ' G' hQ
 have hnew:∀ {b cs},newC G G' b=some cs→G' b=some cs∧w.heap.size≤b:=by
  intro b cs hb
  unfold newC at hb
  split at hb
  · rename_i e
    simp only [isNew,Bool.and_eq_true,Option.isNone_iff_eq_none] at e
    obtain ⟨e1,e2⟩:=e
    refine ⟨hb,?_⟩
    rcases Nat.lt_or_ge b w.heap.size with hlt|hge
    · rcases hG.c b cs hb hlt with ⟨cs0,h0⟩|⟨o,h0⟩
      · rw [e1] at h0; cases h0
      · rw [e2] at h0; cases h0
    · exact hge
  · cases hb
 have hold:∀ {b cs},oldC G G' b=some cs→G' b=some cs∧newC G G' b=none:=by
  intro b cs hb
  unfold oldC at hb
  simp only at hb
  unfold newC
  split at hb
  · cases hb
  · rename_i hne
    exact ⟨hb,if_neg hne⟩
 let S2:Stb:=fun ad=>if (newC G G' ad.block).isSome∧ad.spot=none then w'.cell? ad else S' ad
 have hsub:Sub S' S2:=by
  intro ad u hs
  simp only [S2]
  split
  · exact hr.sub _ _ hs
  · exact hs
 have hS2:∀ ad,newC G G' ad.block=none→S2 ad=S' ad:=fun ad hne=>by simp [S2,hne]
 have hg:∀ b cs,newC G G' b=some cs→∃ vs,VRDs S' cs vs∧∀ (j:Nat) (u:Value),vs[j]?=some u→S2 ⟨b,j,none⟩=some u:=by
  intro b cs hb
  obtain ⟨c0,e0,hc0,hvc,hone⟩:=hr.gbox (hnew hb).1
  refine ⟨c0.toList,hvc,fun j u hj=>?_⟩
  have:(newC G G' b).isSome=true:=by rw [hb]; rfl
  simp only [S2,this,and_self,if_true]
  simpa [World.cell?,hc0] using hj
 refine ⟨S2,r2,σ',oldC G G',h2,⟨?_,hr.len,fun hl=>(hr.box hl).mono hsub rfl,fun {k s b' cs'} hl off sp=>?_,hr.inj,fun hb'=>(hr.gbox (hold hb').1).mono hsub rfl,fun {b' cs'} hb' off sp=>?_,fun hb'=>hr.gnl (hold hb').1,hr.x.keep hsub rfl fun _ _ hr _=>hr,hr.tab.mono hsub⟩,
  ⟨he.sz,he.keep,fun ad hlt=>?_,he.sub.trans hsub,he.os,he.tape,he.out⟩,hsh,?_,⟨fun b' cs' hb' hlt=>hG.c b' cs' (hold hb').1 hlt,hG.m⟩⟩
 · intro ad u hs
   simp only [S2] at hs
   split at hs
   · exact hs
   · exact hr.sub _ _ hs
 · have:newC G G' b'=none:=by
    cases hn:newC G G' b' with
    | none=>rfl
    | some cs=>exact absurd hl (hr.gnl (hnew hn).1)
   rw [hS2 _ this]
   exact hr.nos hl off sp
 · rw [hS2 _ (hold hb').2]
   exact hr.gnos (hold hb').1 off sp
 · have:newC G G' ad.block=none:=by
    cases hn:newC G G' ad.block with
    | none=>rfl
    | some cs=>have:=(hnew hn).2; omega
   rw [hS2 _ this]; exact he.st ad hlt
 · cases hd with
   | refl =>
    cases r with
    | own sz es =>
     obtain ⟨R,ho,hR⟩:=hret
     refine ⟨R,ho.mono hsub (fun g _=>rfl) (fun g hg off sp=>?_),fun g hg=>⟨(hR g hg).1,?_⟩⟩
     · refine hS2 _ ?_
       cases hn:newC G G' g with
       | none=>rfl
       | some cs=>have:=(hnew hn).1; rw [(hR g hg).2] at this; cases this
     · cases hn:oldC G G' g with
       | none=>rfl
       | some cs=>have:=(hold hn).1; rw [(hR g hg).2] at this; cases this
    | d x=>exact VRD.mono hsub hret
    | tup xs=>obtain ⟨vs,e,h3⟩:=hret; exact ⟨vs,e,h3.mono hsub⟩
    | _=>exact hret.elim
   | d x y hd=>exact hd.vrd hsub hg hret
   | tup xs ys hd =>
    obtain ⟨us,e,h3⟩:=hret
    refine ⟨us,e,by rw [hd.1]; exact h3.1,fun j y u hy hu=>?_⟩
    have hlt:j < xs.length:=by rw [← hd.1]; exact (List.getElem?_eq_some_iff.1 hy).1
    have hx:xs[j]?=some xs[j]:=List.getElem?_eq_getElem hlt
    exact (hd.2 j _ y hx hy).vrd hsub hg (h3.2 j _ u hx hu)
theorem CallP.of_deep {P:Program} {f:FuncId} {xs:List D} {Q:AV→Prop} (h:CallT P f (xs.map .d) [] noGh fun r σ' G'=>σ'=[]∧∃ r2,DRA G'.c r r2∧Q r2):CallP P f xs Q:=by
 have h1:CallT P f (xs.map .d) [] noGh fun r σ' _=>σ'=[]∧Q r:=h.deep fun r σ' G' ⟨a,r2,b,c⟩=>⟨r2,by rw [newC_noGh]; exact b,a,c⟩
 exact h1.forget fun r σ' G' ⟨a,b⟩=>⟨noGh,fun _=>.inl rfl,fun _=>.inl rfl,a,rfl,b⟩
end Go.E2
/-
 Maps whose keys are plain values: as lists of keys and values.
 Conditions: none; definitions and laws.
-/
namespace Go.E2
def EntsOk {α β:Type} (emb:α→D) (vf:β→D) (es:List ME) (m:List (α × β)):Prop:=es.map (fun e=>(e.k,e.v))=m.map fun p=>(emb p.1,vf p.2)
theorem EntsOk.inv {α β:Type} {emb:α→D} {vf:β→D} {e:ME} {es:List ME} {m:List (α × β)} (h:EntsOk emb vf (e::es) m):∃ p m',m=p::m'∧e.k=emb p.1∧e.v=vf p.2∧EntsOk emb vf es m':=by
 cases m with
 | nil=>simp [EntsOk] at h
 | cons p m'=>simp [EntsOk] at h; exact ⟨p,m',rfl,h.1.1,h.1.2,by simp [EntsOk,h.2]⟩
section
variable {α β:Type} [DecidableEq α]
def mget:List (α × β)→α→Option β
 | [],_=>none
 | p::m,a=>if p.1=a then some p.2 else mget m a
def mput:List (α × β)→α→β→List (α × β)
 | [],a,v=>[(a,v)]
 | p::m,a,v=>if p.1=a then (a,v)::m else p::mput m a v
def mdel:List (α × β)→α→List (α × β)
 | [],_=>[]
 | p::m,a=>if p.1=a then m else p::mdel m a
theorem mput_keys (m:List (α × β)) (a:α) (v:β):(mput m a v).map (·.1)=if a ∈ m.map (·.1) then m.map (·.1) else m.map (·.1) ++ [a]:=by
 induction m with
 | nil=>simp [mput]
 | cons p m ih =>
  simp only [mput]
  by_cases h:p.1=a
  · rw [if_pos h]; simp [h]
  · rw [if_neg h,List.map_cons,ih]
    have:(a ∈ (p::m).map (·.1))↔(a ∈ m.map (·.1)):=by simp; exact fun e=>absurd e.symm h
    by_cases hm:a ∈ m.map (·.1)
    · rw [if_pos hm,if_pos (this.2 hm)]; simp
    · rw [if_neg hm,if_neg (fun e=>hm (this.1 e))]; simp
theorem mput_nodup {m:List (α × β)} (hn:(m.map (·.1)).Nodup) (a:α) (v:β):((mput m a v).map (·.1)).Nodup:=by
 rw [mput_keys]
 split
 · exact hn
 · rename_i h
   rw [List.nodup_append]
   exact ⟨hn,by simp,fun x hx y hy e=>h (by simp at hy; rw [← hy,← e]; exact hx)⟩
theorem mdel_sub (m:List (α × β)) (a:α):(mdel m a).Sublist m:=by
 induction m with
 | nil=>exact .slnil
 | cons p m ih =>
  simp only [mdel]
  split
  · exact List.sublist_cons_self _ _
  · exact ih.cons_cons _
theorem mdel_nodup {m:List (α × β)} (hn:(m.map (·.1)).Nodup) (a:α):((mdel m a).map (·.1)).Nodup:=hn.sublist ((mdel_sub m a).map _)
structure KeyE (ks:List Kd) (emb:α→D):Prop where
 eq:∀ a b,cellsEq ks (emb a).cells (emb b).cells=some (decide (a=b))
 one:∀ a b,(emb a).one=(emb b).one
 ok:∀ a,((emb a).one || ks.length != 1)=true
theorem KeyE.keyOk {ks:List Kd} {emb:α→D} (h:KeyE ks emb) (a:α):keyOk ks (emb a)=true:=by
 simp only [Go.E2.keyOk,h.ok a,h.eq a a]; rfl
theorem mfind_eq {ks:List Kd} {emb:α→D} {vf:β→D} (he:KeyE ks emb) (a:α):∀ {es:List ME} {m:List (α × β)} (i:Nat),EntsOk emb vf es m →
 (mget m a=none∧mfind ks (emb a) es i=some none)∨∃ j v,j < es.length∧mget m a=some v∧mfind ks (emb a) es i=some (some (i + j,vf v)) ∧
   (∀ v':β,EntsOk emb vf (es.modify j fun e=>⟨emb a,vf v',e.b⟩) (mput m a v'))∧EntsOk emb vf (es.eraseIdx j) (mdel m a)
 | [],m,i,h=>by
   cases m with
   | nil=>exact .inl ⟨rfl,rfl⟩
   | cons p m=>simp [EntsOk] at h
 | e::es,m,i,h=>by
   obtain ⟨p,m',rfl,hk,hv,ht⟩:=h.inv
   have e1:(emb a).one=e.k.one:=by rw [hk]; exact he.one _ _
   have e2:cellsEq ks (emb a).cells e.k.cells=some (decide (a=p.1)):=by rw [hk]; exact he.eq _ _
   simp only [mfind,mget,e1,if_true,e2]
   by_cases hp:p.1=a
   · right
     refine ⟨0,p.2,by simp,by rw [if_pos hp],?_,fun v'=>?_,?_⟩
     · rw [decide_eq_true hp.symm]; simp [hv]
     · simp only [mput,if_pos hp]
       simp [EntsOk] at ht ⊢; exact ht
     · simp only [mdel,if_pos hp]; exact ht
   · rw [if_neg hp,decide_eq_false fun h=>hp h.symm]
     rcases mfind_eq he a (i + 1) ht with ⟨q1,q2⟩|⟨j,v,q1,q2,q3,q4,q5⟩
     · exact .inl ⟨q1,q2⟩
     · right
       refine ⟨j + 1,v,by simpa using q1,q2,?_,fun v'=>?_,?_⟩
       · rw [q3]; congr 3; simp; omega
       · simp only [mput,if_neg hp,List.modify_succ_cons]
         have:=q4 v'
         simp only [EntsOk,List.map_cons,hk,hv] at this ⊢; rw [this]
       · simp only [mdel,if_neg hp,List.eraseIdx_cons_succ]
         simp only [EntsOk,List.map_cons,hk,hv] at q5 ⊢; rw [q5]
def MapL (ks:List Kd) (emb:α→D) (vf:β→D) (G:Gh) (r:Nat) (m:List (α × β)):Prop :=
 KeyE ks emb∧∃ es clock,G.m r=some (.map es clock)∧EntsOk emb vf es m∧(∀ e ∈ es,e.b < clock)∧(es.map (·.b)).Nodup∧(m.map (·.1)).Nodup
variable {ks:List Kd} {emb:α→D} {vf:β→D} {G:Gh} {r:Nat} {m:List (α × β)}
theorem MapL.new (he:KeyE ks emb) {r:Nat}:MapL ks emb vf (G.setM r (some (.map [] 0))) r []:=⟨he,[],0,by simp,rfl,by simp,by simp,by simp⟩
theorem MapL.of {G':Gh} (h:MapL ks emb vf G r m) (e:G'.m r=G.m r):MapL ks emb vf G' r m:=by
 obtain ⟨he,es,clock,h1,h2⟩:=h
 exact ⟨he,es,clock,by rw [e]; exact h1,h2⟩
theorem MapL.set (h:MapL ks emb vf G r m) {b:Nat} {v:Option (List D)}:MapL ks emb vf (G.set b v) r m:=h.of rfl
theorem MapL.setM (h:MapL ks emb vf G r m) {b:Nat} {v:Option MO} (hne:r ≠ b):MapL ks emb vf (G.setM b v) r m:=h.of (by simp [upd_off hne])
theorem MapL.newM (h:MapL ks emb vf G r m) {b:Nat} {v:Option MO} (hb:G.m b=none):MapL ks emb vf (G.setM b v) r m:=h.setM (by
 rintro rfl; obtain ⟨_,es,clock,h1,_⟩:=h; rw [hb] at h1; cases h1)
theorem MapL.len (h:MapL ks emb vf G r m):gdD .mlen [.mref r] G=some (.d (.int .i64 m.length),G):=by
 obtain ⟨he,es,clock,h1,h2,h3⟩:=h
 have:=congrArg List.length h2
 rw [List.length_map,List.length_map] at this
 simp [gdD,mapAt,h1,this]
theorem MapL.put (h:MapL ks emb vf G r m) (a:α) (v:β):∃ M,gdD (.mset ks) [.mref r,emb a,vf v] G=some (.undef,G.setM r (some M))∧MapL ks emb vf (G.setM r (some M)) r (mput m a v):=by
 obtain ⟨he,es,clock,h1,h2,h3,h4,h5⟩:=h
 simp only [gdD,he.keyOk,mapAt,h1]
 rcases mfind_eq he a 0 h2 with ⟨q1,q2⟩|⟨j,w,q1,q2,q3,q4,q5⟩
 · rw [q2]
   refine ⟨_,rfl,he,_,_,by rw [Gh.setM_m,upd_at],?_,?_,?_,mput_nodup h5 a v⟩
   · have:mput m a v=m ++ [(a,v)]:=by
      clear h2 h5
      induction m with
      | nil=>rfl
      | cons p m ih =>
       simp only [mget] at q1
       split at q1
       · cases q1
       · rename_i hp; simp [mput,if_neg hp,ih q1]
     rw [this]
     simp only [EntsOk,List.map_append,List.map_cons,List.map_nil] at h2 ⊢
     rw [h2]
   · intro e hm
     rcases List.mem_append.1 hm with hm|hm
     · have:=h3 e hm; omega
     · simp at hm; subst hm; simp
   · rw [List.map_append,List.nodup_append]
     refine ⟨h4,by simp,fun x hx y hy e=>?_⟩
     obtain ⟨e0,he0,rfl⟩:=List.mem_map.1 hx
     simp at hy
     have:=h3 e0 he0; omega
 · rw [q3]
   simp only [Nat.zero_add]
   refine ⟨_,rfl,he,_,_,by rw [Gh.setM_m,upd_at],q4 v,?_,?_,mput_nodup h5 a v⟩
   · intro e hm
     obtain ⟨i,hi,rfl⟩:=List.getElem_of_mem hm
     rw [List.length_modify] at hi
     rw [List.getElem_modify]
     have:=h3 _ (List.getElem_mem hi)
     split
     · exact this
     · exact this
   · have:(es.modify j fun e=>⟨emb a,vf v,e.b⟩).map (·.b)=es.map (·.b):=by
      apply List.ext_getElem (by simp)
      intro i h1 h2
      simp only [List.getElem_map,List.getElem_modify]
      split<;>rfl
     rw [this]; exact h4
theorem MapL.delete (h:MapL ks emb vf G r m) (a:α):∃ M,gdD (.mdel ks) [.mref r,emb a] G=some (.tup [],G.setM r (some M))∧MapL ks emb vf (G.setM r (some M)) r (mdel m a):=by
 obtain ⟨he,es,clock,h1,h2,h3,h4,h5⟩:=h
 simp only [gdD,he.keyOk,mapAt,h1]
 rcases mfind_eq he a 0 h2 with ⟨q1,q2⟩|⟨j,w,q1,q2,q3,q4,q5⟩
 · rw [q2]
   refine ⟨_,rfl,he,_,_,by rw [Gh.setM_m,upd_at],?_,h3,h4,mdel_nodup h5 a⟩
   have:mdel m a=m:=by
    clear h2 h5
    induction m with
    | nil=>rfl
    | cons p m ih =>
     simp only [mget] at q1
     split at q1
     · cases q1
     · rename_i hp; simp [mdel,if_neg hp,ih q1]
   rw [this]; exact h2
 · rw [q3]
   simp only [Nat.zero_add]
   exact ⟨_,rfl,he,_,_,by rw [Gh.setM_m,upd_at],q5,fun e hm=>h3 e (List.mem_of_mem_eraseIdx hm),h4.sublist (((List.eraseIdx_sublist es j).map _)),mdel_nodup h5 a⟩
end
end Go.E2
/-
 Bits of numbers that are not negative.
 Conditions: none; laws.
-/
namespace Go.E2
theorem GTo.trans {x x' x'':D} {G G' G'':Gh} (h:GTo x x' G G') (h':GTo x' x'' G' G''):GTo x x'' G G'' :=
 ⟨fun b c hb hx=>h'.fr b c (h.fr b c hb hx) (h.sep b c hb hx),fun b c hb hx=>h'.sep b c (h.fr b c hb hx) (h.sep b c hb hx),h'.m.trans h.m⟩
theorem GV.keep {sz:Nat} {x x' y:D} {es:List D} {G G':Gh} (h:GV sz G y es) (hto:GTo x x' G G') (hne:∀ b o k c o' k' c',y=.gs b o k c→x ≠ .gs b o' k' c'):GV sz G' y es∧∀ b o k c o' k' c',y=.gs b o k c→x' ≠ .gs b o' k' c':=by
 cases h with
 | nil=>exact ⟨.nil,fun _ _ _ _ _ _ _ e=>by cases e⟩
 | row b cap es cs hb hr =>
  refine ⟨.row b cap es cs (hto.fr b cs hb fun o n k=>hne _ _ _ _ _ _ _ rfl) hr,fun b' o k c o' k' c' e=>?_⟩
  cases e
  exact hto.sep b cs hb (fun o n k=>hne _ _ _ _ _ _ _ rfl) _ _ _
end Go.E2
