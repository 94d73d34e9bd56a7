/-
 A slice that may change,lent inside a struct to a call that only reads.
 Conditions: none;definitions and laws.
-/
import Derived.Test.YtlejjdbmmdghmaaEN6
namespace Go.E2
inductive zuq (G:Gh):D→D→Prop
 | refl (x:D):zuq G x x
 | nil:zuq G .nilS (.list [])
 | gs (b off n cap sz:Nat) (cs es:List D) (hb:G b=some cs) (hfit:off+n * sz≤cs.length) (hn:es.length=n) (hsz:es.all (zb sz)=true) (he:zag es=(cs.drop off).take (n * sz)):zuq G (.gs b off n cap) (.list es)
 | agg (xs ys:List D) (hl:ys.length=xs.length) (h:∀ (j:Nat) (x y:D),xs[j]?=some x→ys[j]?=some y→zuq G x y):zuq G (.agg xs) (.agg ys)
end Go.E2
namespace Go.E2
inductive DR (G:Nat→Option (List D)):D→D→Prop
 | refl (x:D):DR G x x
 | nil:DR G .nilS (.list [])
 | gs (b off n cap sz:Nat) (cs es:List D) (hb:G b=some cs) (hfit:off+n * sz≤cs.length) (hn:es.length=n) (hsz:es.all (zb sz)=true)
    (h:∀ (j:Nat) (x y:D),((cs.drop off).take (n * sz))[j]?=some x→(zag es)[j]?=some y→DR G x y):DR G (.gs b off n cap) (.list es)
 | agg (xs ys:List D) (hl:ys.length=xs.length) (h:∀ (j:Nat) (x y:D),xs[j]?=some x→ys[j]?=some y→DR G x y):DR G (.agg xs) (.agg ys)
 | list (xs ys:List D) (hl:ys.length=xs.length) (hc:(zag ys).length=(zag xs).length) (sz:Nat) (hsz:ys.all (zb sz)=true) (h:∀ (j:Nat) (x y:D),(zag xs)[j]?=some x→(zag ys)[j]?=some y→DR G x y):DR G (.list xs) (.list ys)
theorem DR.one {G:Nat→Option (List D)} {x y:D} (h:DR G x y):y.one=x.one:=by cases h<;>rfl
def DRs (G:Nat→Option (List D)) (xs ys:List D):Prop:=ys.length=xs.length∧∀ (j:Nat) (x y:D),xs[j]?=some x→ys[j]?=some y→DR G x y
theorem DRs.nil {G:Nat→Option (List D)}:DRs G [] []:=⟨rfl,fun j x y h=>by simp at h⟩
theorem DRs.cons {G:Nat→Option (List D)} {x y:D} {xs ys:List D} (h:DR G x y) (hs:DRs G xs ys):DRs G (x::xs) (y::ys):=by
 refine ⟨by simp [hs.1],fun j u v a b=>?_⟩
 cases j with
 | zero=>simp at a b;subst a;subst b;exact h
 | succ j=>exact hs.2 j u v (by simpa using a) (by simpa using b)
theorem DRs.agg {G:Nat→Option (List D)} {xs ys:List D} (h:DRs G xs ys):DR G (.agg xs) (.agg ys):=.agg xs ys h.1 h.2
theorem GV.dr {sz:Nat} {G:Gh} {x:D} {es:List D} (h:GV sz G x es):DR G.c x (.list es):=by
 cases h with
 | nil=>exact .nil
 | row b cap es cs hb hr=>exact .gs b 0 es.length cap sz cs es hb (by have:=hr.ncs;omega) rfl hr.all (fun j x y a c=>by
    rw [List.drop_zero,hr.eq,c] at a;cases a;exact .refl _)
theorem DR.vrd {G:Nat→Option (List D)} {S S1:Stb} (hsub:Sub S S1) (hg:∀ b cs,G b=some cs→∃ vs,zz S cs vs∧∀ (j:Nat) (u:Value),vs[j]?=some u→S1 ⟨b,j,none⟩=some u) {x y:D} (h:DR G x y):∀ {v:Value},VRD S x v→VRD S1 y v:=by
 induction h with
 | refl=>exact fun ha=>VRD.mono hsub ha
 | nil=>exact fun ha=>(VRD.mono hsub ha).le (.inr rfl)
 | gs b off n cap sz cs es hb hfit hn hsz h ih =>
  intro v ha
  obtain ⟨vs,hvc,hS⟩:=hg b cs hb
  obtain ⟨hav,hnc⟩:v=.slice (some ⟨b,off,none⟩) n cap∧n≤cap:=by
   cases ha;rename_i hh;exact ⟨rfl,hh⟩
  rw [hav]
  rw [← hn]
  have hvc':=(hvc.drop off).take (n * sz)
  have hfl:=zw hsz
  refine VRD.list_mk (c:=(vs.drop off).take (n * sz)) rfl (by rw [hn];exact hnc) hsz ⟨?_,fun j y u hy hu=>?_⟩ fun j u hj=>?_
  · rw [hvc'.1,hfl,hn,List.length_take,List.length_drop]
    omega
  · have hlt:j<((cs.drop off).take (n * sz)).length:=by rw [← hvc'.1];exact (List.getElem?_eq_some_iff.1 hu).1
    have hx:=List.getElem?_eq_getElem hlt
    exact ih j _ y hx hy (hvc'.2 j _ u hx hu)
  · rw [List.getElem?_take] at hj
    split at hj
    · rw [List.getElem?_drop] at hj;exact hS _ _ hj
    · cases hj
 | agg xs ys hl h ih =>
  intro v hx
  obtain ⟨us,rfl,hus,ho⟩:=hx.agg_inv
  refine .agg ys us (by rw [hl];simpa using hus.1) ?_ fun j y u hy hu=>?_
  · rw [List.all_eq_true] at ho ⊢
    intro y hy
    obtain ⟨j,hj⟩:=List.getElem?_of_mem hy
    have hlt:j<xs.length:=by rw [← hl];exact (List.getElem?_eq_some_iff.1 hj).1
    have hx:xs[j]?=some xs[j]:=List.getElem?_eq_getElem hlt
    rw [(h j _ y hx hj).one]
    exact ho _ (List.getElem_mem hlt)
  · have hlt:j<xs.length:=by rw [← hl];exact (List.getElem?_eq_some_iff.1 hy).1
    have hx:xs[j]?=some xs[j]:=List.getElem?_eq_getElem hlt
    exact ih j _ y hx hy (hus.2 j _ u hx (by simpa using hu))
 | list xs ys hl hc sz hsz h ih =>
  intro v hx
  rcases (VRD.mono hsub hx).list_inv with ⟨rfl,rfl⟩|⟨a,cap,c,rfl,hsp,hcap,_,hcv,hcS⟩
  · have:ys=[]:=List.eq_nil_of_length_eq_zero (by simpa using hl)
    subst this
    exact .nilL
  · rcases hx.list_inv with ⟨rfl,e⟩|⟨a',cap',c',e,hsp',hcap',_,hcv',hcS'⟩
    · cases e
    · cases e
      rw [← hl]
      refine VRD.list_mk' (c:=c') hsp (by rw [hl];exact hcap) hsz ⟨by rw [hcv'.1,hc],fun j y u hy hu=>?_⟩ fun j u hj=>hsub _ _ (hcS' j u hj)
      have hlt:j<(zag xs).length:=by rw [← hc];exact (List.getElem?_eq_some_iff.1 hy).1
      have hx:(zag xs)[j]?=some (zag xs)[j]:=List.getElem?_eq_getElem hlt
      exact ih j _ y hx hy (hcv'.2 j _ u hx hu)
inductive DRA (G:Nat→Option (List D)):AV→AV→Prop
 | refl (x:AV):DRA G x x
 | d (x y:D) (h:DR G x y):DRA G (.d x) (.d y)
 | tup (xs ys:List D) (h:DRs G xs ys):DRA G (.tup xs) (.tup ys)
def z0w (G:Gh) (b:Nat):Bool:=(G.c b).isNone && (G.m b).isNone
def z5c (G G':Gh):Gh:=⟨fun b=>if z0w G b=true then none else G'.c b,G'.m,by
 obtain ⟨N,h⟩:=G'.fin
 exact ⟨N,fun b hb=>⟨by split;rfl;exact (h b hb).1,(h b hb).2⟩⟩⟩
def zpm (G G':Gh):Nat→Option (List D):=fun b=>if z0w G b=true then G'.c b else none
theorem zur (G':Gh):zpm zdi G'=G'.c:=rfl
open Classical in
theorem zbb.deep {P:Program} {f:FuncId} {vs:List AV} {σ:List Hp} {G:Gh} {Q Q2:AV→List Hp→Gh→Prop} (h:zbb P f vs σ G Q)
 (hq:∀ r σ' G',Q r σ' G'→∃ r2,DRA (zpm G G') r r2∧Q2 r2 σ' (z5c G G')):zbb P f vs σ G Q2:=by
 intro S ms w args m0 hsz hrel hargs hown
 refine (h S ms w args m0 hsz hrel hargs hown).mono fun v w' ⟨S',r,σ',G',hQ,hr,he,hsh,hret,hG⟩=>?_
 obtain ⟨r2,hd,h2⟩:=hq r σ' G' hQ
 have hnew:∀ {b cs},zpm G G' b=some cs→G' b=some cs∧w.heap.size≤b:=by
  intro b cs hb
  unfold zpm at hb
  split at hb
  · rename_i e
    simp only [z0w,Bool.and_eq_true,Option.isNone_iff_eq_none] at e
    obtain ⟨e1,e2⟩:=e
    refine ⟨hb,?_⟩
    rcases Nat.lt_or_ge b w.heap.size with hlt|hge
    · rcases hG.c b cs hb hlt with ⟨cs0,h0⟩|⟨o,h0⟩
      · rw [e1] at h0;cases h0
      · rw [e2] at h0;cases h0
    · exact hge
  · cases hb
 have hold:∀ {b cs},z5c G G' b=some cs→G' b=some cs∧zpm G G' b=none:=by
  intro b cs hb
  unfold z5c at hb
  simp only at hb
  unfold zpm
  split at hb
  · cases hb
  · rename_i hne
    exact ⟨hb,if_neg hne⟩
 let S2:Stb:=fun ad=>if (zpm G G' ad.block).isSome∧ad.spot=none then w'.cell? ad else S' ad
 have hsub:Sub S' S2:=by
  intro ad u hs
  simp only [S2]
  split
  · exact hr.sub _ _ hs
  · exact hs
 have hS2:∀ ad,zpm G G' ad.block=none→S2 ad=S' ad:=fun ad hne=>by simp [S2,hne]
 have hg:∀ b cs,zpm G G' b=some cs→∃ vs,zz S' cs vs∧∀ (j:Nat) (u:Value),vs[j]?=some u→S2 ⟨b,j,none⟩=some u:=by
  intro b cs hb
  obtain ⟨c0,e0,hc0,hvc,hone⟩:=hr.gbox (hnew hb).1
  refine ⟨c0.toList,hvc,fun j u hj=>?_⟩
  have:(zpm G G' b).isSome=true:=by rw [hb];rfl
  simp only [S2,this,and_self,if_true]
  simpa [World.cell?,hc0] using hj
 refine ⟨S2,r2,σ',z5c G G',h2,⟨?_,hr.len,fun hl=>(hr.box hl).mono hsub rfl,fun {k s b' cs'} hl off sp=>?_,hr.inj,fun hb'=>(hr.gbox (hold hb').1).mono hsub rfl,fun {b' cs'} hb' off sp=>?_,fun hb'=>hr.gnl (hold hb').1,hr.x.keep hsub rfl fun _ _ hr _=>hr,hr.tab.mono hsub⟩,
  ⟨he.sz,he.keep,fun ad hlt=>?_,he.sub.trans hsub,he.os,he.tape,he.out⟩,hsh,?_,⟨fun b' cs' hb' hlt=>hG.c b' cs' (hold hb').1 hlt,hG.m⟩⟩
 · intro ad u hs
   simp only [S2] at hs
   split at hs
   · exact hs
   · exact hr.sub _ _ hs
 · have:zpm G G' b'=none:=by
    cases hn:zpm G G' b' with
    | none=>rfl
    | some cs=>exact absurd hl (hr.gnl (hnew hn).1)
   rw [hS2 _ this]
   exact hr.nos hl off sp
 · rw [hS2 _ (hold hb').2]
   exact hr.gnos (hold hb').1 off sp
 · have:zpm G G' ad.block=none:=by
    cases hn:zpm G G' ad.block with
    | none=>rfl
    | some cs=>have:=(hnew hn).2;omega
   rw [hS2 _ this];exact he.st ad hlt
 · cases hd with
   | refl =>
    cases r with
    | own sz es =>
     obtain ⟨R,ho,hR⟩:=hret
     refine ⟨R,ho.mono hsub (fun g _=>rfl) (fun g hg off sp=>?_),fun g hg=>⟨(hR g hg).1,?_⟩⟩
     · refine hS2 _ ?_
       cases hn:zpm G G' g with
       | none=>rfl
       | some cs=>have:=(hnew hn).1;rw [(hR g hg).2] at this;cases this
     · cases hn:z5c G G' g with
       | none=>rfl
       | some cs=>have:=(hold hn).1;rw [(hR g hg).2] at this;cases this
    | d x=>exact VRD.mono hsub hret
    | tup xs=>obtain ⟨vs,e,h3⟩:=hret;exact ⟨vs,e,h3.mono hsub⟩
    | _=>exact hret.elim
   | d x y hd=>exact hd.vrd hsub hg hret
   | tup xs ys hd =>
    obtain ⟨us,e,h3⟩:=hret
    refine ⟨us,e,by rw [hd.1];exact h3.1,fun j y u hy hu=>?_⟩
    have hlt:j<xs.length:=by rw [← hd.1];exact (List.getElem?_eq_some_iff.1 hy).1
    have hx:xs[j]?=some xs[j]:=List.getElem?_eq_getElem hlt
    exact (hd.2 j _ y hx hy).vrd hsub hg (h3.2 j _ u hx hu)
theorem zba.of_deep {P:Program} {f:FuncId} {xs:List D} {Q:AV→Prop} (h:zbb P f (xs.map .d) [] zdi fun r σ' G'=>σ'=[]∧∃ r2,DRA G'.c r r2∧Q r2):zba P f xs Q:=by
 have h1:zbb P f (xs.map .d) [] zdi fun r σ' _=>σ'=[]∧Q r:=h.deep fun r σ' G' ⟨a,r2,b,c⟩=>⟨r2,by rw [zur];exact b,a,c⟩
 exact h1.forget fun r σ' G' ⟨a,b⟩=>⟨zdi,fun _=>.inl rfl,fun _=>.inl rfl,a,rfl,b⟩
end Go.E2
namespace Go.E2
def zcc {α β:Type} (emb:α→D) (vf:β→D) (es:List ME) (m:List (α×β)):Prop:=es.map (fun e=>(e.k,e.v))=m.map fun p=>(emb p.1,vf p.2)
theorem zcc.inv {α β:Type} {emb:α→D} {vf:β→D} {e:ME} {es:List ME} {m:List (α×β)} (h:zcc emb vf (e::es) m):∃ p m',m=p::m'∧e.k=emb p.1∧e.v=vf p.2∧zcc emb vf es m':=by
 cases m with
 | nil=>simp [zcc] at h
 | cons p m'=>simp [zcc] at h;exact ⟨p,m',rfl,h.1.1,h.1.2,by simp [zcc,h.2]⟩
section
variable {α β:Type} [DecidableEq α]
def zbo:List (α×β)→α→Option β
 | [],_=>none
 | p::m,a=>if p.1=a then some p.2 else zbo m a
def zjz:List (α×β)→α→β→List (α×β)
 | [],a,v=>[(a,v)]
 | p::m,a,v=>if p.1=a then (a,v)::m else p::zjz m a v
def mdel:List (α×β)→α→List (α×β)
 | [],_=>[]
 | p::m,a=>if p.1=a then m else p::mdel m a
theorem zxt (m:List (α×β)) (a b:α) (v:β):zbo (zjz m a v) b=if b=a then some v else zbo m b:=by
 induction m with
 | nil=>by_cases h:b=a<;>simp [zjz,zbo,h];exact fun e=>absurd e.symm h
 | cons p m ih =>
  simp only [zjz]
  by_cases h:p.1=a
  · rw [if_pos h]
    simp only [zbo]
    by_cases hb:b=a
    · subst hb;simp
    · rw [if_neg (fun e=>hb e.symm),if_neg hb,if_neg (by rw [h];exact fun e=>hb e.symm)]
  · rw [if_neg h]
    simp only [zbo,ih]
    by_cases hb:b=a
    · subst hb;rw [if_neg h,if_pos rfl,if_pos rfl]
    · rw [if_neg hb,if_neg hb]
theorem zi3 {m:List (α×β)} {a:α} {v:β} (h:zbo m a=some v):(a,v)∈m:=by
 induction m with
 | nil=>cases h
 | cons p m ih =>
  simp only [zbo] at h
  split at h
  · rename_i e;cases h;subst e;exact List.mem_cons_self
  · exact List.mem_cons_of_mem _ (ih h)
theorem zj0 {m:List (α×β)} {a:α}:zbo m a=none↔a ∉ m.map (·.1):=by
 induction m with
 | nil=>simp [zbo]
 | cons p m ih =>
  simp only [zbo,List.map_cons,List.mem_cons,not_or]
  split
  · rename_i e;simp [e]
  · rename_i e;rw [ih];exact ⟨fun h=>⟨fun e'=>e e'.symm,h⟩,fun h=>h.2⟩
theorem zem {m:List (α×β)} (hn:(m.map (·.1)).Nodup) {a:α} {v:β} (h:(a,v)∈m):zbo m a=some v:=by
 induction m with
 | nil=>cases h
 | cons p m ih =>
  simp only [zbo]
  rw [List.map_cons,List.nodup_cons] at hn
  rcases List.mem_cons.1 h with e|h
  · subst e;simp
  · have:p.1≠a:=fun e=>hn.1 (by rw [e];exact List.mem_map.2 ⟨_,h,rfl⟩)
    rw [if_neg this];exact ih hn.2 h
theorem zus (m:List (α×β)) (a:α) (v:β):(zjz m a v).map (·.1)=if a∈m.map (·.1) then m.map (·.1) else m.map (·.1)++[a]:=by
 induction m with
 | nil=>simp [zjz]
 | cons p m ih =>
  simp only [zjz]
  by_cases h:p.1=a
  · rw [if_pos h];simp [h]
  · rw [if_neg h,List.map_cons,ih]
    have:(a∈(p::m).map (·.1))↔(a∈m.map (·.1)):=by simp;exact fun e=>absurd e.symm h
    by_cases hm:a∈m.map (·.1)
    · rw [if_pos hm,if_pos (this.2 hm)];simp
    · rw [if_neg hm,if_neg (fun e=>hm (this.1 e))];simp
theorem zhy {m:List (α×β)} (hn:(m.map (·.1)).Nodup) (a:α) (v:β):((zjz m a v).map (·.1)).Nodup:=by
 rw [zus]
 split
 · exact hn
 · rename_i h
   rw [List.nodup_append]
   exact ⟨hn,by simp,fun x hx y hy e=>h (by simp at hy;rw [← hy,← e];exact hx)⟩
theorem zxu (m:List (α×β)) (a:α):(mdel m a).Sublist m:=by
 induction m with
 | nil=>exact .slnil
 | cons p m ih =>
  simp only [mdel]
  split
  · exact List.sublist_cons_self _ _
  · exact ih.cons_cons _
theorem zft {m:List (α×β)} (hn:(m.map (·.1)).Nodup) (a:α):((mdel m a).map (·.1)).Nodup:=hn.sublist ((zxu m a).map _)
theorem zxv {m:List (α×β)} (hn:(m.map (·.1)).Nodup) (a b:α):zbo (mdel m a) b=if b=a then none else zbo m b:=by
 induction m with
 | nil=>simp [mdel,zbo]
 | cons p m ih =>
  rw [List.map_cons,List.nodup_cons] at hn
  simp only [mdel]
  by_cases h:p.1=a
  · rw [if_pos h]
    by_cases hb:b=a
    · subst hb;rw [if_pos rfl,zj0,← h];exact hn.1
    · rw [if_neg hb];simp only [zbo];rw [if_neg (by rw [h];exact fun e=>hb e.symm)]
  · rw [if_neg h]
    simp only [zbo,ih hn.2]
    by_cases hb:b=a
    · subst hb;rw [if_neg h,if_pos rfl,if_pos rfl]
    · rw [if_neg hb,if_neg hb]
theorem zxw (m:List (α×β)) (a:α):(mdel m a).length=if (zbo m a).isSome then m.length - 1 else m.length:=by
 induction m with
 | nil=>simp [mdel,zbo]
 | cons p m ih =>
  simp only [mdel,zbo]
  by_cases h:p.1=a
  · simp [h]
  · simp only [if_neg h,List.length_cons,ih]
    split
    · rename_i hs
      have:m≠[]:=by rintro rfl;simp [zbo] at hs
      have:=List.length_pos_iff.2 this
      simp;omega
    · simp
structure zut (ks:List Kd) (emb:α→D):Prop where
 eq:∀ a b,zk ks (emb a).cells (emb b).cells=some (decide (a=b))
 one:∀ a b,(emb a).one=(emb b).one
 ok:∀ a,((emb a).one || ks.length != 1)=true
theorem zut.keyOk {ks:List Kd} {emb:α→D} (h:zut ks emb) (a:α):keyOk ks (emb a)=true:=by
 simp only [Go.E2.keyOk,h.ok a,h.eq a a];rfl
theorem zq1 (k:IntKind):zut [.i] (fun n:Int=>D.int k n) :=
 ⟨fun a b=>by simp only [D.cells];rw [zui];simp [zk],fun _ _=>rfl,fun _=>rfl⟩
theorem zfu {ks:List Kd} {emb:α→D} {vf:β→D} (he:zut ks emb) (a:α):∀ {es:List ME} {m:List (α×β)} (i:Nat),zcc emb vf es m →
 (zbo m a=none∧zeq ks (emb a) es i=some none)∨∃ j v,j<es.length∧zbo m a=some v∧zeq ks (emb a) es i=some (some (i+j,vf v)) ∧
   (∀ v':β,zcc emb vf (es.modify j fun e=>⟨emb a,vf v',e.b⟩) (zjz m a v'))∧zcc emb vf (es.eraseIdx j) (mdel m a)
 | [],m,i,h=>by
   cases m with
   | nil=>exact .inl ⟨rfl,rfl⟩
   | cons p m=>simp [zcc] at h
 | e::es,m,i,h=>by
   obtain ⟨p,m',rfl,hk,hv,ht⟩:=h.inv
   have e1:(emb a).one=e.k.one:=by rw [hk];exact he.one _ _
   have e2:zk ks (emb a).cells e.k.cells=some (decide (a=p.1)):=by rw [hk];exact he.eq _ _
   simp only [zeq,zbo,e1,if_true,e2]
   by_cases hp:p.1=a
   · right
     refine ⟨0,p.2,by simp,by rw [if_pos hp],?_,fun v'=>?_,?_⟩
     · rw [decide_eq_true hp.symm];simp [hv]
     · simp only [zjz,if_pos hp]
       simp [zcc] at ht ⊢;exact ht
     · simp only [mdel,if_pos hp];exact ht
   · rw [if_neg hp,decide_eq_false fun h=>hp h.symm]
     rcases zfu he a (i+1) ht with ⟨q1,q2⟩|⟨j,v,q1,q2,q3,q4,q5⟩
     · exact .inl ⟨q1,q2⟩
     · right
       refine ⟨j+1,v,by simpa using q1,q2,?_,fun v'=>?_,?_⟩
       · rw [q3];congr 3;simp;omega
       · simp only [zjz,if_neg hp,List.modify_succ_cons]
         have:=q4 v'
         simp only [zcc,List.map_cons,hk,hv] at this ⊢;rw [this]
       · simp only [mdel,if_neg hp,List.eraseIdx_cons_succ]
         simp only [zcc,List.map_cons,hk,hv] at q5 ⊢;rw [q5]
def zhz (ks:List Kd) (emb:α→D) (vf:β→D) (G:Gh) (r:Nat) (m:List (α×β)):Prop :=
 zut ks emb∧∃ es clock,G.m r=some (.map es clock)∧zcc emb vf es m∧(∀ e∈es,e.b<clock)∧(es.map (·.b)).Nodup∧(m.map (·.1)).Nodup
variable {ks:List Kd} {emb:α→D} {vf:β→D} {G:Gh} {r:Nat} {m:List (α×β)}
theorem zhz.nodup (h:zhz ks emb vf G r m):(m.map (·.1)).Nodup:=by obtain ⟨_,_,_,_,_,_,_,hn⟩:=h;exact hn
theorem zhz.new (he:zut ks emb) {r:Nat}:zhz ks emb vf (G.setM r (some (.map [] 0))) r []:=⟨he,[],0,by simp,rfl,by simp,by simp,by simp⟩
theorem zhz.look (h:zhz ks emb vf G r m) (z:D) (a:α):gdD (.mlook ks z false) [.mref r,emb a] G=some (.d (((zbo m a).map vf).getD z),G):=by
 obtain ⟨he,es,clock,h1,h2,h3⟩:=h
 simp only [gdD,he.keyOk,if_true,zfd,h1]
 rcases zfu he a 0 h2 with ⟨q1,q2⟩|⟨j,v,q1,q2,q3,_⟩
 · rw [q1,q2];rfl
 · rw [q2,q3];rfl
theorem zhz.look2 (h:zhz ks emb vf G r m) (z:D) (a:α):gdD (.mlook ks z true) [.mref r,emb a] G=some (.tup [((zbo m a).map vf).getD z,.bool (zbo m a).isSome],G):=by
 obtain ⟨he,es,clock,h1,h2,h3⟩:=h
 simp only [gdD,he.keyOk,if_true,zfd,h1]
 rcases zfu he a 0 h2 with ⟨q1,q2⟩|⟨j,v,q1,q2,q3,_⟩
 · rw [q1,q2];rfl
 · rw [q2,q3];rfl
theorem zhz.put (h:zhz ks emb vf G r m) (a:α) (v:β):∃ M,gdD (.mset ks) [.mref r,emb a,vf v] G=some (.undef,G.setM r (some M))∧zhz ks emb vf (G.setM r (some M)) r (zjz m a v):=by
 obtain ⟨he,es,clock,h1,h2,h3,h4,h5⟩:=h
 simp only [gdD,he.keyOk,zfd,h1]
 rcases zfu he a 0 h2 with ⟨q1,q2⟩|⟨j,w,q1,q2,q3,q4,q5⟩
 · rw [q2]
   refine ⟨_,rfl,he,_,_,by rw [Gh.setM_m,zjy],?_,?_,?_,zhy h5 a v⟩
   · have:zjz m a v=m++[(a,v)]:=by
      clear h2 h5
      induction m with
      | nil=>rfl
      | cons p m ih =>
       simp only [zbo] at q1
       split at q1
       · cases q1
       · rename_i hp;simp [zjz,if_neg hp,ih q1]
     rw [this]
     simp only [zcc,List.map_append,List.map_cons,List.map_nil] at h2 ⊢
     rw [h2]
   · intro e hm
     rcases List.mem_append.1 hm with hm|hm
     · have:=h3 e hm;omega
     · simp at hm;subst hm;simp
   · rw [List.map_append,List.nodup_append]
     refine ⟨h4,by simp,fun x hx y hy e=>?_⟩
     obtain ⟨e0,he0,rfl⟩:=List.mem_map.1 hx
     simp at hy
     have:=h3 e0 he0;omega
 · rw [q3]
   simp only [Nat.zero_add]
   refine ⟨_,rfl,he,_,_,by rw [Gh.setM_m,zjy],q4 v,?_,?_,zhy h5 a v⟩
   · intro e hm
     obtain ⟨i,hi,rfl⟩:=List.getElem_of_mem hm
     rw [List.length_modify] at hi
     rw [List.getElem_modify]
     have:=h3 _ (List.getElem_mem hi)
     split
     · exact this
     · exact this
   · have:(es.modify j fun e=>⟨emb a,vf v,e.b⟩).map (·.b)=es.map (·.b):=by
      apply List.ext_getElem (by simp)
      intro i h1 h2
      simp only [List.getElem_map,List.getElem_modify]
      split<;>rfl
     rw [this];exact h4
theorem zhz.delete (h:zhz ks emb vf G r m) (a:α):∃ M,gdD (.mdel ks) [.mref r,emb a] G=some (.tup [],G.setM r (some M))∧zhz ks emb vf (G.setM r (some M)) r (mdel m a):=by
 obtain ⟨he,es,clock,h1,h2,h3,h4,h5⟩:=h
 simp only [gdD,he.keyOk,zfd,h1]
 rcases zfu he a 0 h2 with ⟨q1,q2⟩|⟨j,w,q1,q2,q3,q4,q5⟩
 · rw [q2]
   refine ⟨_,rfl,he,_,_,by rw [Gh.setM_m,zjy],?_,h3,h4,zft h5 a⟩
   have:mdel m a=m:=by
    clear h2 h5
    induction m with
    | nil=>rfl
    | cons p m ih =>
     simp only [zbo] at q1
     split at q1
     · cases q1
     · rename_i hp;simp [mdel,if_neg hp,ih q1]
   rw [this];exact h2
 · rw [q3]
   simp only [Nat.zero_add]
   exact ⟨_,rfl,he,_,_,by rw [Gh.setM_m,zjy],q5,fun e hm=>h3 e (List.mem_of_mem_eraseIdx hm),h4.sublist (((List.eraseIdx_sublist es j).map _)),zft h5 a⟩
theorem zuu {k:AV→Gh→Prop} {hd:zu k} (h:zhz ks emb vf G r m) (a:α) (v:β) (hk:∀ M,zhz ks emb vf (G.setM r (some M)) r (zjz m a v)→k .undef (G.setM r (some M))):wGd (gdD (.mset ks) [.mref r,emb a,vf v] G) hd:=by
 obtain ⟨M,h1,h2⟩:=h.put a v
 exact zjx h1 (hk M h2)
theorem z0x {k:AV→Gh→Prop} {hd:zu k} (h:zhz ks emb vf G r m) (a:α) (hk:∀ M,zhz ks emb vf (G.setM r (some M)) r (mdel m a)→k (.tup []) (G.setM r (some M))):wGd (gdD (.mdel ks) [.mref r,emb a] G) hd:=by
 obtain ⟨M,h1,h2⟩:=h.delete a
 exact zjx h1 (hk M h2)
end
end Go.E2
namespace Go.E2
theorem zxx (a b:Nat):a &&& b≤b:=Nat.and_le_right
theorem z5d (w:Nat) {a b:Int} (ha:0≤a) (hb:0≤b) (ha':a<2 ^ w) (hb':b<2 ^ w):(BitVec.ofInt w a &&& BitVec.ofInt w b).toNat=a.toNat &&& b.toNat:=by
 obtain ⟨a,rfl⟩:=Int.eq_ofNat_of_zero_le ha
 obtain ⟨b,rfl⟩:=Int.eq_ofNat_of_zero_le hb
 have e1:a<2 ^ w:=by exact_mod_cast ha'
 have e2:b<2 ^ w:=by exact_mod_cast hb'
 rw [BitVec.ofInt_natCast,BitVec.ofInt_natCast,BitVec.toNat_and,BitVec.toNat_ofNat,BitVec.toNat_ofNat,Nat.mod_eq_of_lt e1,Nat.mod_eq_of_lt e2,Int.toNat_natCast,Int.toNat_natCast]
theorem zxy (w:Nat) {a b:Int} (ha:0≤a) (hb:0≤b) (ha':a<2 ^ w) (hb':b<2 ^ w):(BitVec.ofInt w a ||| BitVec.ofInt w b).toNat=a.toNat ||| b.toNat:=by
 obtain ⟨a,rfl⟩:=Int.eq_ofNat_of_zero_le ha
 obtain ⟨b,rfl⟩:=Int.eq_ofNat_of_zero_le hb
 have e1:a<2 ^ w:=by exact_mod_cast ha'
 have e2:b<2 ^ w:=by exact_mod_cast hb'
 rw [BitVec.ofInt_natCast,BitVec.ofInt_natCast,BitVec.toNat_or,BitVec.toNat_ofNat,BitVec.toNat_ofNat,Nat.mod_eq_of_lt e1,Nat.mod_eq_of_lt e2,Int.toNat_natCast,Int.toNat_natCast]
theorem z0y {a b:Int} (ha:0≤a) (hb:0≤b) (ha':a≤9223372036854775807) (hb':b≤9223372036854775807):zb6 .and (.int .i64 a) (.int .i64 b)=some (.int .i64 ((a.toNat &&& b.toNat:Nat):Int)):=by
 have e:=z5d IntKind.i64.bits ha hb (by rw [zqw];omega) (by rw [zqw];omega)
 have h1:a.toNat &&& b.toNat≤b.toNat:=zxx _ _
 simp only [zb6,if_true]
 rw [e,wrap_i64 (by omega) (by omega)]
end Go.E2
