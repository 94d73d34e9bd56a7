/-
 What may be forgotten of the evaluator's state: a slot's value,that a slice is nil,that a row is one's own.
 Conditions: none;definitions and laws.
-/
import Derived.Test.YtlejjdbmmdghmaaEM6
namespace Go.E2
mutual
def norm:D→D
 | .agg cs=>.agg (zh6 cs)
 | .list es=>.list (zh6 es)
 | .nilS=>.list []
 | .bool b=>.bool b
 | .int k n=>.int k n
 | .str s=>.str s
 | .nilP=>.nilP
 | .nilF=>.nilF
 | .fn f=>.fn f
 | .gs b off len cap=>.gs b off len cap
 | .gp b off=>.gp b off
 | .clo f ds=>.clo f ds
 | .bnd f ds=>.bnd f ds
 | .mref r=>.mref r
 | .nilM=>.nilM
 | .yld l=>.yld l
 | .ifc t b off=>.ifc t b off
 | .nilI=>.nilI
def zh6:List D→List D
 | []=>[]
 | x::xs=>norm x::zh6 xs
end
theorem zfj:∀ l:List D,zh6 l=l.map norm
 | []=>rfl
 | x::xs=>by simp [zh6,zfj xs]
theorem zrb (x:D):(norm x).one=x.one:=by cases x<;>rfl
theorem zlp (x:D):(norm x).cells=x.cells.map norm:=by
 cases x with
 | agg cs=>simp [norm,D.cells,zfj]
 | _=>rfl
theorem zir (l:List D):(l.map norm).all D.one=l.all D.one:=by
 induction l with
 | nil=>rfl
 | cons x l ih=>rw [List.map_cons,List.all_cons,List.all_cons,zrb,ih]
theorem zod (l:List D):zag (l.map norm)=(zag l).map norm:=by
 induction l with
 | nil=>rfl
 | cons x l ih=>rw [List.map_cons,z7,z7,ih,zlp,List.map_append]
theorem zp1 (sz:Nat) (x:D):zb sz (norm x)=zb sz x:=by
 simp only [zb,zlp,List.length_map,zir]
theorem zka (sz:Nat) (l:List D):(l.map norm).all (zb sz)=l.all (zb sz):=by
 induction l with
 | nil=>rfl
 | cons x l ih=>simp only [List.map_cons,List.all_cons,zp1,ih]
theorem VRD.norm {S:Stb} {x:D} {v:Value} (h:VRD S x v):VRD S (norm x) v:=by
 induction h with
 | bool b=>exact .bool b
 | int k n=>exact .int k n
 | str s l h=>exact .str s l h
 | agg cs vs hl ho _ ih =>
  rw [E2.norm,zfj]
  refine .agg _ vs (by simpa using hl) (by rw [zir];exact ho) (fun j x v a b=>?_)
  rw [List.getElem?_map] at a
  cases hq:cs[j]? with
  | none=>rw [hq] at a;cases a
  | some y=>rw [hq] at a;cases a;exact ih j y v hq b
 | nilL=>exact .nilL
 | list sz es a cap c hsp hcap hsz hl hS _ ih =>
  have hlen:(es.map E2.norm).length=es.length:=List.length_map ..
  rw [E2.norm,zfj,← hlen]
  refine .list sz (es.map E2.norm) a cap c hsp (by rw [hlen];exact hcap) (by rw [zka];exact hsz) (by rw [zod,List.length_map];exact hl) hS (fun j x v hx hv=>?_)
  rw [zod,List.getElem?_map] at hx
  cases hq:(zag es)[j]? with
  | none=>rw [hq] at hx;cases hx
  | some y=>rw [hq] at hx;cases hx;exact ih j y v hq hv
 | nilS=>exact .nilL
 | nilP=>exact .nilP
 | nilF=>exact .nilF
 | fn f=>exact .fn f
 | gs b off len cap h=>exact .gs b off len cap h
 | gp b off=>exact .gp b off
 | clo f ds cv hl ho h _=>exact .clo f ds cv hl ho h
 | bnd f ds cv hl ho h _=>exact .bnd f ds cv hl ho h
 | mref r=>exact .mref r
 | nilM=>exact .nilM
 | yld l=>exact .yld l
 | ifc t b off=>exact .ifc t b off
 | nilI=>exact .nilI
def DLe (x y:D):Prop:=y=x∨y=norm x
def zhc (xs ys:List D):Prop:=ys.length=xs.length∧∀ (j:Nat) (x y:D),xs[j]?=some x→ys[j]?=some y→DLe x y
theorem zhc.refl (xs:List D):zhc xs xs:=⟨rfl,fun j x y a b=>by rw [a] at b;cases b;exact .inl rfl⟩
theorem zhc.nil:zhc [] []:=zhc.refl []
theorem zhc.cons {x y:D} {xs ys:List D} (h:DLe x y) (hs:zhc xs ys):zhc (x::xs) (y::ys):=by
 refine ⟨by simp [hs.1],fun j u v a b=>?_⟩
 cases j with
 | zero=>simp at a b;subst a;subst b;exact h
 | succ j=>exact hs.2 j u v (by simpa using a) (by simpa using b)
theorem VRD.le {S:Stb} {x y:D} {v:Value} (h:VRD S x v) (hl:DLe x y):VRD S y v:=by
 rcases hl with rfl|rfl
 · exact h
 · exact h.norm
theorem DLe.one {x y:D} (h:DLe x y):y.one=x.one:=by
 rcases h with rfl|rfl
 · rfl
 · exact zrb x
theorem zz.le {S:Stb} {xs ys:List D} {vs:List Value} (h:zz S xs vs) (hl:zhc xs ys):zz S ys vs:=by
 refine ⟨by rw [h.1,hl.1],fun j y v a b=>?_⟩
 have hj:j<xs.length:=by rw [← h.1];exact (List.getElem?_eq_some_iff.1 b).1
 have hx:xs[j]?=some xs[j]:=List.getElem?_eq_getElem hj
 exact (h.2 j _ v hx b).le (hl.2 j _ y hx a)
theorem zhc.all_one {xs ys:List D} (hl:zhc xs ys) (h:xs.all D.one=true):ys.all D.one=true:=by
 rw [List.all_eq_true] at h ⊢
 intro y hy
 obtain ⟨j,hj⟩:=List.getElem?_of_mem hy
 have hlt:j<xs.length:=by rw [← hl.1];exact (List.getElem?_eq_some_iff.1 hj).1
 have hx:xs[j]?=some xs[j]:=List.getElem?_eq_getElem hlt
 rw [(hl.2 j _ y hx hj).one]
 exact h _ (List.getElem_mem hlt)
inductive VLe:AV→AV→Prop
 | refl (x:AV):VLe x x
 | undef (x:AV):VLe x .undef
 | nilown (sz:Nat):VLe (.d .nilS) (.own sz [])
 | norm (x:D):VLe (.d x) (.d (norm x))
 | own (sz:Nat) (es:List D):VLe (.own sz es) (.d (.list es))
 | ownn (sz:Nat) (es:List D):VLe (.own sz es) (.d (E2.norm (.list es)))
 | tup (xs ys:List D) (h:zhc xs ys):VLe (.tup xs) (.tup ys)
def BLe (b b':Blk):Prop:=b'.g=b.g∧((b.c=none∧b'.c=none)∨∃ cs cs',b.c=some cs∧b'.c=some cs'∧zhc cs cs')
theorem BLe.refl (b:Blk):BLe b b:=by
 refine ⟨rfl,?_⟩
 cases h:b.c with
 | none=>exact .inl ⟨rfl,rfl⟩
 | some cs=>exact .inr ⟨cs,cs,rfl,rfl,zhc.refl cs⟩
def GLe (G G':Gh):Prop:=G'.m=G.m∧∀ b,(G b=none∧G' b=none)∨∃ cs cs',G b=some cs∧G' b=some cs'∧zhc cs cs'
theorem GLe.refl (G:Gh):GLe G G:=⟨rfl,fun b=>by
 cases h:G b with
 | none=>exact .inl ⟨rfl,rfl⟩
 | some cs=>exact .inr ⟨cs,cs,rfl,rfl,zhc.refl cs⟩⟩
structure ztm (st st':St):Prop where
 e:∀ i,VLe (st.1 i) (st'.1 i)
 l:∀ s,BLe (st.2.1 s) (st'.2.1 s)
 s:st'.2.2.1=st.2.2.1
 g:GLe st.2.2.2 st'.2.2.2
section
variable {S:Stb} {ms:List (Nat→Nat)} {ow:Nat→Option Nat} {base:Nat} {O:Nat→Prop} {ρ ρ':Env} {L L':Hp} {σ:List Hp} {G G':Gh} {a:Act} {w:World}
theorem VR.le {lv:List Hp} {x y:AV} {v:Value} (h:VR S lv ms x v) (hl:VLe x y):VR S lv ms y v:=by
 cases hl with
 | refl=>exact h
 | undef=>trivial
 | nilown sz=>cases h;exact VRD.nilL
 | norm x=>exact VRD.norm h
 | own sz es=>exact h
 | ownn sz es=>exact VRD.norm h
 | tup xs ys hd =>
  obtain ⟨vs,e,h⟩:=h
  exact ⟨vs,e,h.le hd⟩
theorem zfk (hl:∀ s,BLe (L s) (L' s)) {k s b:Nat} {cs':List D} (h:zds (L'::σ) ms k s b cs'):∃ cs,zds (L::σ) ms k s b cs∧zhc cs cs':=by
 obtain ⟨x,m,h1,h2,h3,h4⟩:=h
 cases k with
 | zero =>
  simp at h1
  subst h1
  rcases (hl s).2 with ⟨_,hn⟩|⟨cs,cs2,e1,e2,hd⟩
  · rw [hn] at h3;cases h3
  · rw [e2] at h3
    cases h3
    exact ⟨cs,⟨L,m,by simp,h2,e1,h4⟩,hd⟩
 | succ k=>exact ⟨cs',⟨x,m,by simpa using h1,h2,h3,h4⟩,zhc.refl _⟩
theorem VR.leL (hl:∀ s,BLe (L s) (L' s)) {x:AV} {v:Value} (h:VR S (L::σ) ms x v):VR S (L'::σ) ms x v:=by
 have ptr:∀ {k s g off v},zep (L::σ) ms k s g off v→zep (L'::σ) ms k s g off v:=by
  rintro k s g off v ⟨x,m,b,h1,h2,h3,h4,h5⟩
  cases k with
  | zero =>
   simp at h1
   subst h1
   refine ⟨L',m,b,by simp,h2,h3,by rw [(hl s).1];exact h4,fun hn hg=>h5 ?_ (by rw [← (hl s).1];exact hg)⟩
   rcases (hl s).2 with ⟨_,e⟩|⟨cs,cs2,e1,e2,hd⟩
   · exact absurd e hn
   · rw [e1];simp
  | succ k=>exact ⟨x,m,b,by simpa using h1,h2,h3,h4,h5⟩
 cases x with
 | ptr k s g off=>exact ptr h
 | func f caps =>
  obtain ⟨cv,h1,h2,h3⟩:=h
  exact ⟨cv,h1,h2,fun j p u hj hu=>ptr (h3 j p u hj hu)⟩
 | _=>exact h
theorem zeo.le {b:Nat} {cs cs':List D} (h:zeo S w b cs) (hd:zhc cs cs'):zeo S w b cs':=by
 obtain ⟨vs,e,h1,h2,h3⟩:=h
 exact ⟨vs,e,h1,h2.le hd,hd.all_one h3⟩
theorem GLe.some' (h:GLe G G') {b:Nat} {cs':List D} (hb:G' b=some cs'):∃ cs,G b=some cs∧zhc cs cs':=by
 rcases h.2 b with ⟨_,h2⟩|⟨cs,cs2,h1,h2,hd⟩
 · rw [h2] at hb;cases hb
 · rw [h2] at hb;cases hb;exact ⟨cs,h1,hd⟩
theorem GLe.none' (h:GLe G G') {b:Nat} (hb:G b=none):G' b=none:=by
 rcases h.2 b with ⟨_,h2⟩|⟨cs,cs2,h1,h2,hd⟩
 · exact h2
 · rw [h1] at hb;cases hb
theorem zcw.le (h:zcw S ms (L::σ) G w) (hl:∀ s,BLe (L s) (L' s)) (hg:GLe G G'):zcw S ms (L'::σ) G' w:=by
 refine ⟨h.sub,by simpa using h.len,fun hv=>?_,fun hv=>?_,fun h1 h2=>?_,fun hb=>?_,fun hb=>?_,fun hb hv=>?_,h.x.keep (Sub.refl S) hg.1 fun _ _ hr _=>hr,h.tab⟩
 · obtain ⟨cs,hv',hd⟩:=zfk hl hv;exact (h.box hv').le hd
 · obtain ⟨cs,hv',hd⟩:=zfk hl hv;exact h.nos hv'
 · obtain ⟨cs,hv',hd⟩:=zfk hl h1
   obtain ⟨cs2,hv2,hd2⟩:=zfk hl h2
   exact h.inj hv' hv2
 · obtain ⟨cs,hb',hd⟩:=hg.some' hb;exact (h.gbox hb').le hd
 · obtain ⟨cs,hb',hd⟩:=hg.some' hb;exact h.gnos hb'
 · obtain ⟨cs,hb',hd⟩:=hg.some' hb
   obtain ⟨cs2,hv2,hd2⟩:=zfk hl hv
   exact h.gnl hb' hv2
open Classical in
theorem Rel.le [DD] (h:Rel S ms ow base O ρ L σ G a w) (he:∀ i,VLe (ρ i) (ρ' i)) (hl:∀ s,BLe (L s) (L' s)) (hg:GLe G G'):∃ ow',Rel S ms ow' base O ρ' L' σ G' a w:=by
 have key:∀ {i sz es},ρ' i=.own sz es→ρ i=.own sz es∨(ρ i=.d .nilS∧es=[]):=by
  intro i sz es hi
  have:=he i
  rw [hi] at this
  generalize ρ i=x at this
  cases this with
  | refl=>exact .inl rfl
  | nilown=>exact .inr ⟨rfl,rfl⟩
 refine ⟨fun i=>if ρ i=.d .nilS then none else ow i,{ h:=h.h.le hl hg,tmp:=fun i=>((h.tmp i).le (he i)).leL hl,own:=fun {i sz es} hi=>?_,ownI:=fun {i j sz es sz' es' g} hi hj gi gj=>?_,ownB:=fun {i sz es g} hi gi=>?_,new:=fun hv=>?_,old:=fun hv=>?_,gold:=fun hb hlt=>?_,mold:=fun hb=>h.mold (hg.1▸hb),dfs:=h.dfs,bas:=h.bas }⟩
 · rcases key hi with h0|⟨h0,rfl⟩
   · have hne:¬ (ρ i=.d .nilS):=by rw [h0];intro e;cases e
     show zgj S w sz es _ (if ρ i=.d .nilS then none else ow i)
     rw [if_neg hne]
     exact h.own h0
   · show zgj S w sz [] _ (if ρ i=.d .nilS then none else ow i)
     rw [if_pos h0]
     have:=h.tmp i
     rw [h0] at this
     generalize a.tmps.getD i undef=u at this
     have hu:u=.slice none 0 0:=by cases this;rfl
     exact ⟨⟨none,hu⟩,by rw [hu];exact .nilL,rfl⟩
 · have hi':ρ i=.own sz es:=by
    rcases key hi with h0|⟨h0,rfl⟩
    · exact h0
    · simp only [h0,if_true] at gi;cases gi
   have hj':ρ j=.own sz' es':=by
    rcases key hj with h0|⟨h0,rfl⟩
    · exact h0
    · simp only [h0,if_true] at gj;cases gj
   have ni:¬ (ρ i=.d .nilS):=by rw [hi'];intro e;cases e
   have nj:¬ (ρ j=.d .nilS):=by rw [hj'];intro e;cases e
   simp only [if_neg ni] at gi
   simp only [if_neg nj] at gj
   exact h.ownI hi' hj' gi gj
 · have hi':ρ i=.own sz es:=by
    rcases key hi with h0|⟨h0,rfl⟩
    · exact h0
    · simp only [h0,if_true] at gi;cases gi
   have ni:¬ (ρ i=.d .nilS):=by rw [hi'];intro e;cases e
   simp only [if_neg ni] at gi
   obtain ⟨h1,h2,h3⟩:=h.ownB hi' gi
   exact ⟨h1,hg.none' h2,fun k s cs hv=>by obtain ⟨cs',hv',_⟩:=zfk hl hv;exact h3 _ _ _ hv'⟩
 · obtain ⟨cs,hv',_⟩:=zfk hl hv;exact h.new hv'
 · obtain ⟨cs,hv',_⟩:=zfk hl hv;exact h.old hv'
 · obtain ⟨cs,hb',_⟩:=hg.some' hb;exact h.gold hb' hlt
end
end Go.E2
