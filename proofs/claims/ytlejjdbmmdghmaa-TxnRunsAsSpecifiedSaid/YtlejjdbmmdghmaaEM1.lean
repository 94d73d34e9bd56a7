/-
 Operations that may change places: the evaluator's steps in whatever order a region draws.
 Conditions: none;laws.
-/
import Derived.Test.YtlejjdbmmdghmaaEO7
import Derived.Orders
import Derived.OrdersIn
namespace Go.E2
theorem zh {ρ1 ρ2:Env} {o:AO} (h:∀ t∈o.tmps,ρ1 t=ρ2 t):ev ρ1 o=ev ρ2 o:=by
 cases o with
 | t i=>exact h i (by simp [AO.tmps])
 | c x=>rfl
 | g x=>rfl
 | m i tab=>simp only [ev,h i (by simp [AO.tmps])]
theorem zdk {ρ1 ρ2:Env} {o:Option AO} {d:Nat} (h:∀ t∈zs3 o,ρ1 t=ρ2 t):bnd ρ1 d o=bnd ρ2 d o:=by
 cases o with
 | none=>rfl
 | some o=>simp only [bnd,zh (ρ1:=ρ1) (ρ2:=ρ2) (o:=o) h]
theorem za5 {ρ1 ρ2:Env}:∀ {os:List AO},(∀ t∈os.flatMap AO.tmps,ρ1 t=ρ2 t)→zx ρ1 os=zx ρ2 os
 | [],_=>rfl
 | o::os,h=>by
   simp only [zx,zh (o:=o) fun t ht=>h t (by simp [ht]),za5 (os:=os) fun t ht=>h t (by
    simp only [List.flatMap_cons,List.mem_append];exact .inr ht)]
theorem zjj {ρ1 ρ2:Env}:∀ {os:List AO},(∀ t∈os.flatMap AO.tmps,ρ1 t=ρ2 t) →
 (os.mapM fun o=>zpv (ev ρ1 o))=(os.mapM fun o=>zpv (ev ρ2 o))
 | [],_=>rfl
 | o::os,h=>by
   simp only [List.mapM_cons,zh (o:=o) fun t ht=>h t (by simp [ht]),zjj (os:=os) fun t ht=>h t (by
    simp only [List.flatMap_cons,List.mem_append];exact .inr ht)]
theorem zni {ρ1 ρ2:Env} {os:List AO} (h:∀ t∈os.flatMap AO.tmps,ρ1 t=ρ2 t):os.map (ev ρ1)=os.map (ev ρ2) :=
 List.map_congr_left fun o ho=>zh fun t ht=>h t (List.mem_flatMap.2 ⟨o,ho,ht⟩)
theorem zgy {ρ1 ρ2:Env} {L1 L2:Hp} {σ:List Hp} {G1 G2:Gh} {op:AOp} (h:∀ t∈op.uses,ρ1 t=ρ2 t)
 (hL:∀ g n x r,op=.load g n x r→(∃ s,r=.site s∧L1 s=L2 s)∨(r=.foreign∧G1=G2)):evP ρ1 (L1::σ) G1 op=evP ρ2 (L2::σ) G2 op:=by
 cases op with
 | mv t x=>simp only [evP,zh (o:=x) h]
 | pick a b c =>
  simp only [AOp.uses,List.mem_append] at h
  simp only [evP,zh (o:=a) fun t ht=>h t (.inl (.inl ht)),zh (o:=b) fun t ht=>h t (.inl (.inr ht)),zh (o:=c) fun t ht=>h t (.inr ht)]
 | build z ps =>
  have:=za5 (ρ1:=ρ1) (ρ2:=ρ2) (os:=ps.map (·.2.2)) (fun t ht=>h t (by simpa [AOp.uses,List.flatMap_map] using ht))
  simp only [evP,this]
 | mkslice a b z ps =>
  have:=za5 (ρ1:=ρ1) (ρ2:=ρ2) (os:=ps.map (·.2)) (fun t ht=>h t (by simpa [AOp.uses,List.flatMap_map] using ht))
  simp only [evP,this]
 | load g n x r =>
  simp only [evP,zh (o:=x) h]
  rcases hL g n x r rfl with ⟨s,rfl,he⟩|⟨rfl,rfl⟩
  · split
    · rename_i k s' g' off e
      by_cases hr:zbw (.site s) k s'=true
      · simp only [hr,if_true]
        simp [zbw] at hr
        obtain ⟨rfl,rfl⟩:=hr
        simp [blk,he]
      · simp only [hr,if_false,Bool.false_eq_true]
    · rfl
    · simp [Root.foreignOk]
    · rfl
  · split
    · rename_i k s' g' off e
      cases k with
      | zero=>simp [zbw]
      | succ k=>simp [zbw,blk]
    · rfl
    · rfl
    · rfl
 | nilck x=>simp only [evP,zh (o:=x) h]
 | bin o x y =>
  simp only [AOp.uses,List.mem_append] at h
  simp only [evP,zh (o:=x) fun t ht=>h t (.inl ht),zh (o:=y) fun t ht=>h t (.inr ht)]
 | eqs n k x y =>
  simp only [AOp.uses,List.mem_append] at h
  simp only [evP,zh (o:=x) fun t ht=>h t (.inl ht),zh (o:=y) fun t ht=>h t (.inr ht)]
 | eqb n x y =>
  simp only [AOp.uses,List.mem_append] at h
  simp only [evP,zh (o:=x) fun t ht=>h t (.inl ht),zh (o:=y) fun t ht=>h t (.inr ht)]
 | isnil n x=>simp only [evP,zh (o:=x) h]
 | not x=>simp only [evP,zh (o:=x) h]
 | neg x=>simp only [evP,zh (o:=x) h]
 | conv k x=>simp only [evP,zh (o:=x) h]
 | mkfunc f cs=>simp only [evP,zjj (os:=cs) h]
 | sl0 n x=>simp only [evP,zh (o:=x) h]
 | sl3L n x y z =>
  simp only [AOp.uses,List.mem_append] at h
  simp only [evP,zh (o:=x) fun t ht=>h t (.inl (.inl ht)),zh (o:=y) fun t ht=>h t (.inl (.inr ht)),zh (o:=z) fun t ht=>h t (.inr ht)]
 | sl n x l r =>
  simp only [AOp.uses,List.mem_append] at h
  have hl:∀ d,bnd ρ1 d l=bnd ρ2 d l:=fun d=>zdk fun t ht=>h t (.inl (.inr ht))
  have hr:∀ d,bnd ρ1 d r=bnd ρ2 d r:=fun d=>zdk fun t ht=>h t (.inr ht)
  simp only [evP,zh (o:=x) fun t ht=>h t (.inl (.inl ht)),hl,hr]
 | slS x l r =>
  simp only [AOp.uses,List.mem_append] at h
  have hl:∀ d,bnd ρ1 d l=bnd ρ2 d l:=fun d=>zdk fun t ht=>h t (.inl (.inr ht))
  have hr:∀ d,bnd ρ1 d r=bnd ρ2 d r:=fun d=>zdk fun t ht=>h t (.inr ht)
  simp only [evP,zh (o:=x) fun t ht=>h t (.inl (.inl ht)),hl,hr]
 | faddr n x=>simp only [evP,zh (o:=x) h]
 | field a b c x=>simp only [evP,zh (o:=x) h]
 | iaddr n x y =>
  simp only [AOp.uses,List.mem_append] at h
  simp only [evP,zh (o:=x) fun t ht=>h t (.inl ht),zh (o:=y) fun t ht=>h t (.inr ht)]
 | iaddrA n m x y =>
  simp only [AOp.uses,List.mem_append] at h
  simp only [evP,zh (o:=x) fun t ht=>h t (.inl ht),zh (o:=y) fun t ht=>h t (.inr ht)]
 | idxS x y =>
  simp only [AOp.uses,List.mem_append] at h
  simp only [evP,zh (o:=x) fun t ht=>h t (.inl ht),zh (o:=y) fun t ht=>h t (.inr ht)]
 | idxA a b c x y =>
  simp only [AOp.uses,List.mem_append] at h
  simp only [evP,zh (o:=x) fun t ht=>h t (.inl ht),zh (o:=y) fun t ht=>h t (.inr ht)]
 | ext x i=>simp only [evP,zh (o:=x) h]
 | len s x=>simp only [evP,zh (o:=x) h]
 | mx x y =>
  simp only [AOp.uses,List.mem_append] at h
  simp only [evP,zh (o:=x) fun t ht=>h t (.inl ht),zh (o:=y) fun t ht=>h t (.inr ht)]
 | mn x y =>
  simp only [AOp.uses,List.mem_append] at h
  simp only [evP,zh (o:=x) fun t ht=>h t (.inl ht),zh (o:=y) fun t ht=>h t (.inr ht)]
 | b2s x=>simp only [evP,zh (o:=x) h]
 | s2b x=>simp only [evP,zh (o:=x) h]
 | alloc z=>rfl
 | box n x=>rfl
 | store n a v r=>rfl
 | call f as q=>rfl
 | append a b x y=>rfl
 | cap x=>simp only [evP,zh (o:=x) h]
 | sl3 n x l r m =>
  simp only [AOp.uses,List.mem_append] at h
  have hl:∀ d,bnd ρ1 d l=bnd ρ2 d l:=fun d=>zdk fun t ht=>h t (.inl (.inl (.inr ht)))
  have hr:∀ d,bnd ρ1 d (some r)=bnd ρ2 d (some r):=fun d=>zdk (o:=some r) fun t ht=>h t (.inl (.inr ht))
  have hm:∀ d,bnd ρ1 d (some m)=bnd ρ2 d (some m):=fun d=>zdk (o:=some m) fun t ht=>h t (.inr ht)
  simp only [evP,zh (o:=x) fun t ht=>h t (.inl (.inl (.inl ht))),hl,hr,hm]
 | copy a x y=>rfl
 | appG a b c x y=>rfl
 | appZ a b c x y=>rfl
 | mkG a b c d=>rfl
 | gd k as=>rfl
 | gn k as=>rfl
 | kp ls op=>rfl
def zjk (G G':Gh):Prop:=(∀ b cs,G b=some cs→G' b=some cs)∧∀ b o,G.m b=some o→G'.m b=some o
theorem zjk.refl (G:Gh):zjk G G:=⟨fun _ _ h=>h,fun _ _ h=>h⟩
def zcm:GUse→Gh→Gh→Prop
 | .no,_,_=>True
 | .rd,G,G'=>zjk G G'
 | _,G,G'=>G=G'
theorem zcm.refl (u:GUse) (G:Gh):zcm u G G:=by cases u<;>first|trivial|exact zjk.refl G|rfl
def Loc (F:Env→Hp→List Hp→Gh→Option St) (T W E V:List Nat) (u:GUse):Prop :=
 ∀ ρ1 L1 ρ2 L2 σ G1 G2 ρ1' L1' σ' G1',(∀ t∈T,ρ1 t=ρ2 t)→(∀ s∈E,L1 s=L2 s)→zcm u G1 G2→F ρ1 L1 σ G1=some (ρ1',L1',σ',G1') →
   σ'=σ∧(∀ t,t ∉ W→ρ1' t=ρ1 t)∧(∀ s,s ∉ V→L1' s=L1 s)∧(u≠.wr→G1'=G1) ∧
   ∃ ρ2' L2' G2',F ρ2 L2 σ G2=some (ρ2',L2',σ,G2')∧(∀ t∈W,ρ2' t=ρ1' t)∧(∀ t,t ∉ W→ρ2' t=ρ2 t)∧(∀ s∈V,L2' s=L1' s)∧(∀ s,s ∉ V→L2' s=L2 s)∧(u≠.wr→G2'=G2)∧(u=.wr→G2'=G1')
theorem zae {x y:List Nat} (h:zdx x y=true) {t:Nat} (ht:t∈x):t ∉ y:=by
 simp only [zdx,List.all_eq_true] at h
 have:=h t ht
 simpa using this
theorem Loc.swap [DD] {F G:Env→Hp→List Hp→Gh→Option St} {T W E V T' W' E' V':List Nat} {u u':GUse} (hF:Loc F T W E V u) (hG:Loc G T' W' E' V' u') (h1:zdx W T'=true) (h2:zdx W' T=true) (h3:zdx V E'=true) (h4:zdx V' E=true) (h5:gOk u u'=true)
 (hW':∀ t∈W',t∈T') (hV':∀ t∈V',t∈E') {ρ ρ1 ρ2:Env} {L L1 L2:Hp} {σ σ1 σ2:List Hp} {H H1 H2:Gh} (a:F ρ L σ H=some (ρ1,L1,σ1,H1)) (b:G ρ1 L1 σ1 H1=some (ρ2,L2,σ2,H2)) :
 ∃ ρ3 L3 σ3 H3,G ρ L σ H=some (ρ3,L3,σ3,H3)∧F ρ3 L3 σ3 H3=some (ρ2,L2,σ2,H2):=by
 have hu:u≠.wr∨u'=.no:=by cases u<;>cases u' <;> simp [gOk] at h5 ⊢
 have hu':u'≠.wr∨u=.no:=by cases u<;>cases u' <;> simp [gOk] at h5 ⊢
 obtain ⟨rfl,a1,a2,a3,_⟩:=hF ρ L ρ L σ H H _ _ _ _ (fun _ _=>rfl) (fun _ _=>rfl) (zcm.refl _ _) a
 have e1:∀ t∈T',ρ1 t=ρ t:=fun t ht=>a1 t fun hw=>zae h1 hw ht
 have e2:∀ s∈E',L1 s=L s:=fun s hs=>a2 s fun hv=>zae h3 hv hs
 have e3:zcm u' H1 H:=by
  rcases hu with h|h
  · rw [a3 h];exact zcm.refl _ _
  · subst h;trivial
 obtain ⟨rfl,b1,b2,b2',ρ3,L3,H3,b3,b4,b5,b6,b7,b8,b9⟩:=hG ρ1 L1 ρ L _ H1 H _ _ _ _ e1 e2 e3 b
 have f1:∀ t∈T,ρ t=ρ3 t:=fun t ht=>(b5 t fun hw=>zae h2 hw ht).symm
 have f2:∀ s∈E,L s=L3 s:=fun s hs=>(b7 s fun hv=>zae h4 hv hs).symm
 have f3:zcm u H H3:=by
  rcases hu' with h|h
  · rw [b8 h];exact zcm.refl _ _
  · subst h;trivial
 obtain ⟨_,_,_,_,ρ4,L4,H4,c3,c4,c5,c6,c7,c8,c9⟩:=hF ρ L ρ3 L3 _ H H3 _ _ _ _ f1 f2 f3 a
 refine ⟨ρ3,L3,_,H3,b3,?_⟩
 rw [c3]
 have g1:ρ4=ρ2:=by
  funext t
  by_cases ht:t∈W
  · rw [c4 t ht,b1 t fun hw=>zae h1 ht (hW' t hw)]
  · rw [c5 t ht]
    by_cases ht':t∈W'
    · exact b4 t ht'
    · rw [b5 t ht',b1 t ht',a1 t ht]
 have g2:L4=L2:=by
  funext s
  by_cases hs:s∈V
  · rw [c6 s hs,b2 s fun hv=>zae h3 hs (hV' s hv)]
  · rw [c7 s hs]
    by_cases hs':s∈V'
    · exact b6 s hs'
    · rw [b7 s hs',b2 s hs',a2 s hs]
 have g3:H4=H2:=by
  by_cases hw:u=.wr
  · have hn:u'=.no:=by rcases hu with h|h;exact absurd hw h;exact h
    rw [c9 hw,b2' (by rw [hn];simp)]
  · rw [c8 hw]
    by_cases hw':u'=.wr
    · exact b9 hw'
    · rw [b8 hw',b2' hw',a3 hw]
 rw [g1,g2,g3]
theorem zac {ρ:Env} {d:Option Nat} {v:AV} {t:Nat} (h:t ∉ d.toList):put ρ d v t=ρ t:=by
 cases d with
 | none=>rfl
 | some d=>simp at h;exact zak _ _ h
theorem zb4 {ρ:Env} {d:Option Nat} {v:AV} {t:Nat} (h:t∈d.toList):put ρ d v t=v:=by
 cases d with
 | none=>simp at h
 | some d=>simp at h;subst h;exact za9 _ _ _
theorem znj {ρ:Env} {x:AO} {t:Nat} (h:t ∉ x.tmps):zdb ρ x t=ρ t:=by
 cases x with
 | t i=>simp [AO.tmps] at h;exact zak _ _ h
 | c x=>rfl
 | g x=>rfl
 | m i tab=>rfl
theorem zw5 {ρ1 ρ2:Env} {x:AO} (hx:∀ t∈x.tmps,ρ1 t=ρ2 t) {t:Nat} (h:t∈x.tmps):zdb ρ2 x t=zdb ρ1 x t:=by
 cases x with
 | t i =>
  simp [AO.tmps] at h
  subst h
  have:=hx t (by simp [AO.tmps])
  simp [zdb,upd,this]
 | c x=>simp [AO.tmps] at h
 | g x=>simp [AO.tmps] at h
 | m i tab=>exact (hx t h).symm
theorem zpa [DD] {d:Option Nat} {T W E V:List Nat} {u:GUse} {f:Env→Hp→List Hp→Gh→Option AV} (hf:∀ ρ1 ρ2 L1 L2 σ G1 G2 v,(∀ t∈T,ρ1 t=ρ2 t)→(∀ s∈E,L1 s=L2 s)→zcm u G1 G2→f ρ1 L1 σ G1=some v→f ρ2 L2 σ G2=some v) (hW:W=d.toList) (hV:V=[]) (hu:u≠.wr) :
 Loc (fun ρ L σ G=>(f ρ L σ G).map fun v=>(put ρ d v,L,σ,G)) T W E V u:=by
 subst hW;subst hV
 intro ρ1 L1 ρ2 L2 σ G1 G2 ρ1' L1' σ' G1' h1 h2 h3 h
 simp only [Option.map_eq_some_iff] at h
 obtain ⟨v,hv,he⟩:=h
 cases he
 refine ⟨rfl,fun t ht=>zac ht,fun _ _=>rfl,fun _=>rfl,put ρ2 d v,L2,G2,?_,?_,?_,?_,?_,fun _=>rfl,fun e=>absurd e hu⟩
 · show Option.map _ (f ρ2 L2 σ G2)=_
   rw [hf ρ1 ρ2 L1 L2 σ G1 G2 v h1 h2 h3 hv];rfl
 · intro t ht;rw [zb4 ht,zb4 ht]
 · intro t ht;exact zac ht
 · intro s hs;simp at hs
 · intro s _;rfl
theorem zql {d:Option Nat} {T:List Nat} {x:AO} {f:Env→Option AV} (hx:∀ t∈x.tmps,t∈T) (hf:∀ ρ1 ρ2,(∀ t∈T,ρ1 t=ρ2 t)→f ρ1=f ρ2) :
 Loc (fun ρ L σ G=>(f ρ).map fun v=>(put (zdb ρ x) d v,L,σ,G)) T (d.toList++x.tmps) [] [] .no:=by
 intro ρ1 L1 ρ2 L2 σ G1 G2 ρ1' L1' σ' G1' h1 h2 _ h
 simp only [Option.map_eq_some_iff] at h
 obtain ⟨v,hv,he⟩:=h
 cases he
 refine ⟨rfl,?_,fun _ _=>rfl,fun _=>rfl,put (zdb ρ2 x) d v,L2,G2,?_,?_,?_,?_,?_,fun _=>rfl,fun e=>by cases e⟩
 · intro t ht
   simp only [List.mem_append,not_or] at ht
   rw [zac ht.1,znj ht.2]
 · show Option.map _ (f ρ2)=_
   rw [← hf ρ1 ρ2 h1,hv];rfl
 · intro t ht
   by_cases hd:t∈d.toList
   · rw [zb4 hd,zb4 hd]
   · rw [zac hd,zac hd]
     have:t∈x.tmps:=by
      rcases List.mem_append.1 ht with h|h
      · exact absurd h hd
      · exact h
     exact zw5 (fun t ht=>h1 t (hx t ht)) this
 · intro t ht
   simp only [List.mem_append,not_or] at ht
   rw [zac ht.1,znj ht.2]
 · intro s hs;simp at hs
 · intro s _;rfl
theorem ztu {s:Nat} {T:List Nat} {f:Env→Option (List D)} (hf:∀ ρ1 ρ2,(∀ t∈T,ρ1 t=ρ2 t)→f ρ1=f ρ2) :
 Loc (fun ρ L σ G=>(f ρ).map fun cs=>((upd ρ s (.ptr 0 s ((L s).g+1) 0),upd L s ⟨(L s).g+1,some cs⟩,σ,G):St)) T [s] [s] [s] .no:=by
 intro ρ1 L1 ρ2 L2 σ G1 G2 ρ1' L1' σ' G1' h1 h2 _ h
 simp only [Option.map_eq_some_iff] at h
 obtain ⟨v,hv,he⟩:=h
 cases he
 have hL:L1 s=L2 s:=h2 s (by simp)
 refine ⟨rfl,?_,?_,fun _=>rfl,upd ρ2 s (.ptr 0 s ((L2 s).g+1) 0),upd L2 s ⟨(L2 s).g+1,some v⟩,G2,?_,?_,?_,?_,?_,fun _=>rfl,fun e=>by cases e⟩
 · intro t ht;simp at ht;exact zak _ _ ht
 · intro t ht;simp at ht;exact zak _ _ ht
 · show Option.map _ (f ρ2)=_
   rw [← hf ρ1 ρ2 h1,hv];rfl
 · intro t ht;simp at ht;subst ht;rw [za9,za9,hL]
 · intro t ht;simp at ht;exact zak _ _ ht
 · intro t ht;simp at ht;subst ht;rw [za9,za9,hL]
 · intro t ht;simp at ht;exact zak _ _ ht
theorem ztv {d:Option Nat} {s n:Nat} {T:List Nat} {p v:AO} (hp:∀ t∈p.tmps++v.tmps,t∈T) :
 Loc (fun ρ L σ G=>zm d (.store n p v (.site s)) ρ L σ G) T d.toList [s] [s] .no:=by
 intro ρ1 L1 ρ2 L2 σ G1 G2 ρ1' L1' σ' G1' h1 h2 _ h
 have e1:ev ρ1 p=ev ρ2 p:=zh fun t ht=>h1 t (hp t (List.mem_append.2 (.inl ht)))
 have e2:ev ρ1 v=ev ρ2 v:=zh fun t ht=>h1 t (hp t (List.mem_append.2 (.inr ht)))
 have hL:L1 s=L2 s:=h2 s (by simp)
 simp only [zm] at h
 split at h
 · rename_i k s' g off z hq hz
   split at h
   · rename_i hok
     simp only [Bool.and_eq_true] at hok
     have hr:=hok.1
     simp [zbw] at hr
     obtain ⟨rfl,rfl⟩:=hr
     split at h
     · rename_i cs hcs
       split at h
       · rename_i hfit
         simp only at h
         cases h
         have hcs2:blk (L2::σ) 0 s' g=some cs:=by rw [← hcs];simp [blk,hL]
         refine ⟨rfl,?_,?_,fun _=>rfl,put ρ2 d .undef,upd L2 s' ⟨g,some (zbv cs z.cells off)⟩,G2,?_,?_,?_,?_,?_,fun _=>rfl,fun e=>by cases e⟩
         · intro t ht;exact zac ht
         · intro t ht;simp at ht;exact zak _ _ ht
         · simp only [zm,← e1,← e2,hq,hz,hok.1,hok.2,Bool.and_self,if_true,hcs2,hfit]
         · intro t ht;rw [zb4 ht,zb4 ht]
         · intro t ht;exact zac ht
         · intro t ht;simp at ht;subst ht;rw [za9,za9]
         · intro t ht;simp at ht;exact zak _ _ ht
       · cases h
     · cases h
   · cases h
 · simp [Root.foreignOk] at h
 · cases h
theorem zsa {d:Option Nat} {n:Nat} {x y:AO}:Loc (fun ρ L σ G=>zm d (.store n x y .gp) ρ L σ G) (x.tmps++y.tmps) d.toList [] [] .wr:=by
 intro ρ1 L1 ρ2 L2 σ G1 G2 ρ1' L1' σ' G1' h1 h2 h3 h
 have e1:ev ρ1 x=ev ρ2 x:=zh fun t ht=>h1 t (List.mem_append.2 (.inl ht))
 have e2:ev ρ1 y=ev ρ2 y:=zh fun t ht=>h1 t (List.mem_append.2 (.inr ht))
 have h3':G1=G2:=h3
 subst h3'
 simp only [zm] at h
 split at h
 · simp [zbw] at h
 · rename_i b off yd q1 q2
   split at h
   · rename_i hok
     split at h
     · rename_i cs hcs
       split at h
       · rename_i hfit
         cases h
         refine ⟨rfl,fun t ht=>zac ht,fun _ _=>rfl,fun e=>absurd rfl e,put ρ2 d .undef,L2,G1.set b (some (zbv cs yd.cells off)),?_,?_,?_,?_,?_,fun e=>absurd rfl e,fun _=>rfl⟩
         · simp only [zm,← e1,← e2,q1,q2,hok,hcs,hfit,if_true]
         · intro t ht;rw [zb4 ht,zb4 ht]
         · intro t ht;exact zac ht
         · intro t ht;simp at ht
         · intro t ht;rfl
       · cases h
     · cases h
   · cases h
 · cases h
theorem zw6 {d:Option Nat} {sz:Nat} {x y:AO}:Loc (fun ρ L σ G=>zm d (.copy sz x y) ρ L σ G) (x.tmps++y.tmps) d.toList [] [] .wr:=by
 intro ρ1 L1 ρ2 L2 σ G1 G2 ρ1' L1' σ' G1' h1 h2 h3 h
 have e1:ev ρ1 x=ev ρ2 x:=zh fun t ht=>h1 t (List.mem_append.2 (.inl ht))
 have e2:ev ρ1 y=ev ρ2 y:=zh fun t ht=>h1 t (List.mem_append.2 (.inr ht))
 have h3':G1=G2:=h3
 subst h3'
 simp only [zm] at h
 split at h
 · rename_i b off len cap yd q1 q2
   split at h
   · rename_i cs m ys hcs hvw
     split at h
     · rename_i hfit
       cases h
       refine ⟨rfl,fun t ht=>zac ht,fun _ _=>rfl,fun e=>absurd rfl e,put ρ2 d (.d (.int .i64 (min len m))),L2,G1.set b (some (zbv cs (ys.take (min len m * sz)) off)),?_,?_,?_,?_,?_,fun e=>absurd rfl e,fun _=>rfl⟩
       · simp only [zm,← e1,← e2,q1,q2,hcs,hvw,hfit,if_true]
       · intro t ht;rw [zb4 ht,zb4 ht]
       · intro t ht;exact zac ht
       · intro s hs;simp at hs
       · intro s _;rfl
     · cases h
   · cases h
 · cases h
theorem ztw {G G':Gh} (h:zjk G G') {sz:Nat} {x:D} {p:Nat×List D} (hv:zb2 G sz x=some p):zb2 G' sz x=some p:=by
 unfold zb2 at hv ⊢
 split at hv
 · exact hv
 · exact hv
 · split at hv
   · rename_i cs hcs
     simp only [h.1 _ _ hcs];exact hv
   · cases hv
 · cases hv
theorem znk {G G':Gh} (h:zjk G G') {x:D} {p:List ME×Nat} (hv:zfd G x=some p):zfd G' x=some p:=by
 unfold zfd at hv ⊢
 split at hv
 · split at hv
   · rename_i es clock hm
     simp only [h.2 _ _ hm];exact hv
   · cases hv
 · cases hv
theorem z3c {k:GD} (hk:k.use=0) {vs:List D} {G G':Gh} {v:AV} {G1:Gh} (h:gdD k vs G=some (v,G1)):G1=G∧gdD k vs G'=some (v,G'):=by
 cases k<;>simp [GD.use] at hk
 case pnil k neg =>
  unfold gdD at h ⊢
  split at h<;>try (cases h;done)
  all_goals try (simp_all;done)
  all_goals (split at h<;>first|(cases h;done)|(cases h;simp_all))
 case arrS sz n a b c =>
  unfold gdD at h ⊢
  split at h<;>try (cases h;done)
  all_goals try (simp_all;done)
  all_goals (repeat' split at h)<;>first|(cases h;done)|(cases h;simp_all)
 case s2a n =>
  unfold gdD at h ⊢
  split at h<;>try (cases h;done)
  all_goals try (simp_all;done)
  all_goals (repeat' split at h)<;>first|(cases h;done)|(cases h;simp_all)
 case clo f =>
  simp only [gdD] at h ⊢
  split at h
  · rename_i e;cases h;exact ⟨rfl,by rw [if_pos e]⟩
  · cases h
 case bnd f =>
  simp only [gdD] at h ⊢
  split at h
  · rename_i e;cases h;exact ⟨rfl,by rw [if_pos e]⟩
  · cases h
 case mkI t =>
  unfold gdD at h ⊢
  split at h<;>try (cases h;done)
  all_goals try (simp_all;done)
  all_goals (repeat' split at h)<;>first|(cases h;done)|(cases h;simp_all)
theorem z3d {k:GD} (hk:k.use=1) {vs:List D} {G G':Gh} (hx:zjk G G') {v:AV} {G1:Gh} (h:gdD k vs G=some (v,G1)):G1=G∧gdD k vs G'=some (v,G'):=by
 cases k<;>simp [GD.use] at hk
 case mlook ks z ok =>
  match vs,h with
  | [m,key],h =>
   simp only [gdD] at h ⊢
   split at h
   · rename_i hk
     rw [if_pos hk]
     split at h
     · cases h;exact ⟨rfl,rfl⟩
     · split at h
       · rename_i es cl hm
         rw [znk hx hm]
         simp only
         split at h
         · rename_i hf;cases h;exact ⟨rfl,rfl⟩
         · rename_i hf;cases h;exact ⟨rfl,rfl⟩
         · cases h
       · cases h
   · cases h
  | [],h=>simp [gdD] at h
  | [_],h=>simp [gdD] at h
  | _::_::_::_,h=>simp [gdD] at h
 case mlen =>
  match vs,h with
  | [m],h =>
   simp only [gdD] at h ⊢
   split at h
   · cases h;exact ⟨rfl,rfl⟩
   · simp only [Option.map_eq_some_iff] at h ⊢
     obtain ⟨p,hp,e⟩:=h
     cases e
     exact ⟨rfl,p,znk hx hp,rfl⟩
  | [],h=>simp [gdD] at h
  | _::_::_,h=>simp [gdD] at h
 case b2s =>
  match vs,h with
  | [m],h =>
   simp only [gdD] at h ⊢
   split at h
   · rename_i n cs hv
     rw [ztw hx hv]
     simp only [Option.map_eq_some_iff] at h ⊢
     obtain ⟨p,hp,e⟩:=h
     cases e
     exact ⟨rfl,p,hp,rfl⟩
   · cases h
  | [],h=>simp [gdD] at h
  | _::_::_,h=>simp [gdD] at h
 case entry =>
  obtain ⟨r,rfl⟩:∃ r,vs=[.gp r 0]:=by
   rcases vs with _|⟨x,_|⟨y,vs⟩⟩
   · simp [gdD] at h
   · cases x with
     | gp r off =>
      cases off with
      | zero=>exact ⟨r,rfl⟩
      | succ n=>simp [gdD] at h
     | _=>simp [gdD] at h
   · simp [gdD] at h
  simp only [gdD] at h ⊢
  split at h
  · rename_i q since seen last hm
    rw [hx.2 _ _ hm]
    simp only
    split at h
    · rename_i s es clock hl hq
      rw [hl,hx.2 _ _ hq]
      simp only
      split at h
      · rename_i e
        simp only [Option.map_eq_some_iff] at h
        obtain ⟨p,hp,e2⟩:=h
        cases e2
        exact ⟨rfl,by rw [if_pos e,hp];rfl⟩
      · cases h
    · cases h
  · cases h
theorem z3e {d:Option Nat} {k:GD} {as:List AO}:Loc (fun ρ L σ G=>zm d (.gd k as) ρ L σ G) (as.flatMap AO.tmps) d.toList [] [] (if k.use=0 then .no else if k.use=1 then .rd else .wr):=by
 intro ρ1 L1 ρ2 L2 σ G1 G2 ρ1' L1' σ' G1' h1 h2 h3 h
 have e1:zx ρ1 as=zx ρ2 as:=za5 h1
 have hst:∀ ρ L σ G,zm d (.gd k as) ρ L σ G=(match zx ρ as with|some vs=>(gdD k vs G).map fun p=>((put ρ d p.1,L,σ,p.2):St)|none=>none):=fun _ _ _ _=>rfl
 simp only [hst] at h
 split at h
 · rename_i vs hvs
   rw [Option.map_eq_some_iff] at h
   obtain ⟨⟨v,G3⟩,hg,he⟩:=h
   cases he
   have hvs2:zx ρ2 as=some vs:=by rw [← e1];exact hvs
   have rest:∀ G2',gdD k vs G2=some (v,G2')→((if k.use=0 then GUse.no else if k.use=1 then .rd else .wr)≠.wr→G3=G1∧G2'=G2)→((if k.use=0 then GUse.no else if k.use=1 then .rd else .wr)=.wr→G2'=G3) →
    σ=σ∧(∀ t,t ∉ d.toList→put ρ1 d v t=ρ1 t)∧(∀ s,s ∉ ([]:List Nat)→L1 s=L1 s)∧((if k.use=0 then GUse.no else if k.use=1 then .rd else .wr)≠.wr→G3=G1) ∧
    ∃ ρ2' L2' G2'',zm d (.gd k as) ρ2 L2 σ G2=some (ρ2',L2',σ,G2'')∧(∀ t∈d.toList,ρ2' t=put ρ1 d v t)∧(∀ t,t ∉ d.toList→ρ2' t=ρ2 t)∧(∀ s∈([]:List Nat),L2' s=L1 s)∧(∀ s,s ∉ ([]:List Nat)→L2' s=L2 s)∧((if k.use=0 then GUse.no else if k.use=1 then .rd else .wr)≠.wr→G2''=G2)∧((if k.use=0 then GUse.no else if k.use=1 then .rd else .wr)=.wr→G2''=G3):=by
    intro G2' hg2 hn hw
    refine ⟨rfl,fun t ht=>zac ht,fun _ _=>rfl,fun e=>(hn e).1,put ρ2 d v,L2,G2',?_,fun t ht=>by rw [zb4 ht,zb4 ht],fun t ht=>zac ht,fun s hs=>by simp at hs,fun _ _=>rfl,fun e=>(hn e).2,hw⟩
    rw [hst,hvs2]
    simp [hg2]
   by_cases k0:k.use=0
   · obtain ⟨e,hg2⟩:=z3c (G':=G2) k0 hg
     exact rest G2 hg2 (fun _=>⟨e,rfl⟩) (fun e=>by simp [k0] at e)
   · by_cases k1:k.use=1
     · simp only [k1,if_true,if_false,Nat.one_ne_zero] at h3
       obtain ⟨e,hg2⟩:=z3d (G':=G2) k1 h3 hg
       exact rest G2 hg2 (fun _=>⟨e,rfl⟩) (fun e=>by simp [k1] at e)
     · simp only [k0,k1,if_false] at h3
       have h3':G1=G2:=h3
       subst h3'
       exact rest _ hg (fun e=>by simp [k0,k1] at e) (fun _=>rfl)
 · cases h
theorem Loc.congr {F G:Env→Hp→List Hp→Gh→Option St} {T W E V T' W':List Nat} {u:GUse} (h:Loc F T W E V u) (he:∀ ρ L σ H,G ρ L σ H=F ρ L σ H) (hT:∀ t∈T,t∈T') (hW:∀ t,t∈W↔t∈W'):Loc G T' W' E V u:=by
 intro ρ1 L1 ρ2 L2 σ G1 G2 ρ1' L1' σ' G1' h1 h2 h2' h3
 rw [he] at h3
 obtain ⟨a1,a2,a3,a3',ρ2',L2',G2',a4,a5,a6,a7,a8⟩:=h ρ1 L1 ρ2 L2 σ G1 G2 ρ1' L1' σ' G1' (fun t ht=>h1 t (hT t ht)) h2 h2' h3
 exact ⟨a1,fun t ht=>a2 t (fun x=>ht ((hW t).1 x)),a3,a3',ρ2',L2',G2',by rw [he];exact a4,fun t ht=>a5 t ((hW t).2 ht),fun t ht=>a6 t (fun x=>ht ((hW t).1 x)),a7,a8⟩
theorem zlb (op:AOp):∀ t∈op.takes,t∈op.uses:=by
 intro t ht
 cases op<;>simp [AOp.takes] at ht
 case mv tk x=>cases tk<;>simp at ht;exact ht
 case append a b x y=>simp [AOp.uses,ht]
def zm4 (o:AI) (ρ:Env) (L:Hp) (σ:List Hp) (G:Gh):Option St :=
 match o.guard with
 | none=>zm o.dst o.op ρ L σ G
 | some (t,want) =>
  match zh4 (ρ t) want with
  | some true=>zm o.dst o.op ρ L σ G
  | some false=>some (put ρ o.dst .skp,L,σ,G)
  | none=>none
theorem ztx {a:AI} {E V:List Nat} (hs:a.sites=some (E,V)) (hd:a.op.det=true):Loc (fun ρ L σ G=>zm a.dst a.op ρ L σ G) (a.dst.toList++a.op.uses) a.writes E V a.gUse∧(∀ t∈V,t∈E):=by
 obtain ⟨d,op,guard⟩:=a
 have value:op.takes=[]→E=[]→V=[]→(AI.gUse ⟨d,op,guard⟩=.no)→(∀ g n x r,op≠.load g n x r)→(∀ ρ L σ G,zm d op ρ L σ G=(evP ρ (L::σ) G op).map fun v=>((put ρ d v,L,σ,G):St)) →
  Loc (fun ρ L σ G=>zm d op ρ L σ G) (d.toList++op.uses) (d.toList++op.takes) E V (AI.gUse ⟨d,op,guard⟩)∧(∀ t∈V,t∈E):=by
  intro ht hE hV hu hnl he
  subst hE;subst hV
  rw [hu]
  refine ⟨?_,fun t ht=>by simp at ht⟩
  refine Loc.congr (zpa (d:=d) (T:=op.uses) (E:=[]) (u:=.no) (f:=fun ρ L σ G=>evP ρ (L::σ) G op) (fun ρ1 ρ2 L1 L2 σ G1 G2 v h1 _ _ hv=>by
   rw [← zgy (G1:=G1) (L1:=L1) h1 fun g n x r e=>absurd e (hnl g n x r)];exact hv) rfl rfl (by simp)) he (fun t h=>List.mem_append.2 (.inr h)) (fun t=>by rw [ht,List.append_nil])
 cases op with
 | load g n x r =>
  cases r with
  | any=>simp [AI.sites] at hs
  | gp=>simp [AI.sites] at hs
  | site s =>
   simp [AI.sites] at hs
   obtain ⟨rfl,rfl⟩:=hs
   refine ⟨?_,fun t ht=>by simp at ht⟩
   refine Loc.congr (zpa (d:=d) (T:=x.tmps) (E:=[s]) (u:=.no) (f:=fun ρ L σ G=>evP ρ (L::σ) G (.load g n x (.site s))) (fun ρ1 ρ2 L1 L2 σ G1 G2 v h1 h2 _ hv=>by
    rw [← zgy (ρ1:=ρ1) (L1:=L1) (L2:=L2) (σ:=σ) (G1:=G1) (G2:=G2) (op:=.load g n x (.site s)) h1 fun g' n' x' r' e=>by cases e;exact .inl ⟨s,rfl,h2 s (by simp)⟩];exact hv) rfl rfl (by simp)) (fun ρ L σ H=>rfl) (fun t h=>List.mem_append.2 (.inr h)) (fun t=>by simp [AI.writes,AOp.takes])
  | foreign =>
   simp [AI.sites] at hs
   obtain ⟨rfl,rfl⟩:=hs
   refine ⟨?_,fun t ht=>by simp at ht⟩
   refine Loc.congr (zpa (d:=d) (T:=x.tmps) (E:=[]) (u:=.rd) (f:=fun ρ L σ G=>evP ρ (L::σ) G (.load g n x .foreign)) (fun ρ1 ρ2 L1 L2 σ G1 G2 v h1 h2 h3 hv=>by
    have hx:=zh (o:=x) h1
    simp only [evP,← hx] at hv ⊢
    split at hv
    · rename_i k s' g' off e
      cases k with
      | zero=>simp [zbw] at hv
      | succ k=>simpa [zbw,blk] using hv
    · exact hv
    · rename_i b off e
      simp only [Root.foreignOk,if_true] at hv ⊢
      split at hv
      · rename_i cs hcs
        rw [h3.1 b cs hcs]
        exact hv
      · cases hv
    · exact hv) rfl rfl (by simp)) (fun ρ L σ H=>rfl) (fun t h=>List.mem_append.2 (.inr h)) (fun t=>by simp [AI.writes,AOp.takes])
 | store n p v r =>
  cases r with
  | any=>simp [AI.sites] at hs
  | foreign=>simp [AI.sites] at hs
  | gp =>
   simp [AI.sites] at hs
   obtain ⟨rfl,rfl⟩:=hs
   exact ⟨Loc.congr zsa (fun ρ L σ H=>rfl) (fun t h=>List.mem_append.2 (.inr h)) (fun t=>by simp [AI.writes,AOp.takes]),fun t h=>h⟩
  | site s =>
   simp [AI.sites] at hs
   obtain ⟨rfl,rfl⟩:=hs
   exact ⟨Loc.congr (ztv (T:=p.tmps++v.tmps) fun t h=>h) (fun ρ L σ H=>rfl) (fun t h=>List.mem_append.2 (.inr h)) (fun t=>by simp [AI.writes,AOp.takes]),fun t h=>h⟩
 | copy sz x y =>
  simp [AI.sites] at hs
  obtain ⟨rfl,rfl⟩:=hs
  exact ⟨Loc.congr zw6 (fun ρ L σ H=>rfl) (fun t h=>List.mem_append.2 (.inr h)) (fun t=>by simp [AI.writes,AOp.takes]),fun t h=>h⟩
 | alloc z =>
  simp [AI.sites] at hs
  obtain ⟨rfl,rfl⟩:=hs
  refine ⟨?_,fun t h=>h⟩
  cases d with
  | none =>
   intro ρ1 L1 ρ2 L2 σ G1 G2 ρ1' L1' σ' G1' h1 h2 _ h
   simp [zm] at h
  | some s=>exact Loc.congr (ztu (s:=s) (T:=[]) (f:=fun _=>some z) (fun _ _ _=>rfl)) (fun ρ L σ H=>rfl) (fun t h=>by simp at h) (fun t=>by simp [AI.writes,AOp.takes])
 | box n x =>
  simp [AI.sites] at hs
  obtain ⟨rfl,rfl⟩:=hs
  refine ⟨?_,fun t h=>h⟩
  cases d with
  | none =>
   intro ρ1 L1 ρ2 L2 σ G1 G2 ρ1' L1' σ' G1' h1 h2 _ h
   simp [zm] at h
  | some s =>
   refine Loc.congr (ztu (s:=s) (T:=x.tmps) (f:=fun ρ=>match (ev ρ x).data with|some y=>if zb n y then some y.cells else none|none=>none) (fun ρ1 ρ2 h=>by rw [zh h])) (fun ρ L σ H=>?_) (fun t h=>List.mem_append.2 (.inr h)) (fun t=>by simp [AI.writes,AOp.takes])
   simp only [zm]
   cases (ev ρ x).data with
   | none=>rfl
   | some y=>simp only;split<;>rfl
 | mv tk x =>
  cases tk with
  | false =>
   simp [AI.sites] at hs
   obtain ⟨rfl,rfl⟩:=hs
   exact value rfl rfl rfl rfl (fun _ _ _ _ e=>by cases e) (fun ρ L σ H=>rfl)
  | true =>
   simp [AI.sites] at hs
   obtain ⟨rfl,rfl⟩:=hs
   refine ⟨?_,fun t h=>h⟩
   exact Loc.congr (zql (d:=d) (T:=x.tmps) (x:=x) (f:=fun ρ=>some (ev ρ x)) (fun t h=>h) (fun ρ1 ρ2 h=>by rw [zh h])) (fun ρ L σ H=>rfl) (fun t h=>List.mem_append.2 (.inr h)) (fun t=>by simp [AI.writes,AOp.takes])
 | append sz b x y =>
  simp [AI.sites] at hs
  obtain ⟨rfl,rfl⟩:=hs
  refine ⟨?_,fun t h=>h⟩
  refine Loc.congr (zql (d:=d) (T:=x.tmps++y.tmps) (x:=x) (f:=fun ρ=>match d,(ev ρ y).data with|some _,some z=>zbc sz b (ev ρ x) z|_,_=>none) (fun t h=>List.mem_append.2 (.inl h)) (fun ρ1 ρ2 h=>by
   rw [zh (o:=x) fun t ht=>h t (List.mem_append.2 (.inl ht)),zh (o:=y) fun t ht=>h t (List.mem_append.2 (.inr ht))])) (fun ρ L σ H=>?_) (fun t h=>List.mem_append.2 (.inr h)) (fun t=>by simp [AI.writes,AOp.takes])
  simp only [zm]
  cases d with
  | none=>simp
  | some d =>
   cases (ev ρ y).data with
   | none=>simp
   | some z=>simp [put]
 | call f args q=>cases hd
 | isnil n x=>cases hd
 | appG a b c x y=>cases hd
 | appZ a b c x y=>cases hd
 | mkG a b c e=>cases hd
 | gn k as=>cases hd
 | kp ls op=>cases hd
 | gd k as =>
  simp [AI.sites] at hs
  obtain ⟨rfl,rfl⟩:=hs
  exact ⟨Loc.congr z3e (fun ρ L σ H=>rfl) (fun t h=>List.mem_append.2 (.inr h)) (fun t=>by simp [AI.writes,AOp.takes]),fun t h=>h⟩
 | _ =>
  simp [AI.sites] at hs
  obtain ⟨rfl,rfl⟩:=hs
  exact value rfl rfl rfl rfl (fun _ _ _ _ e=>by cases e) (fun ρ L σ H=>rfl)
theorem zc5 {a:AI} {E V:List Nat} (hs:a.sites=some (E,V)) (hd:a.op.det=true):Loc (zm4 a) a.foot a.writes E V a.gUse∧(∀ t∈a.writes,t∈a.foot)∧(∀ t∈V,t∈E):=by
 obtain ⟨hl,hv⟩:=ztx hs hd
 refine ⟨?_,fun t ht=>?_,hv⟩
 · obtain ⟨d,op,guard⟩:=a
   cases guard with
   | none=>exact Loc.congr hl (fun ρ L σ H=>rfl) (fun t h=>by simp [AI.foot] at h ⊢;exact h) (fun t=>Iff.rfl)
   | some g =>
    obtain ⟨t0,want⟩:=g
    intro ρ1 L1 ρ2 L2 σ G1 G2 ρ1' L1' σ' G1' h1 h2 h3 h
    have ht0:ρ1 t0=ρ2 t0:=h1 t0 (by simp [AI.foot])
    simp only [zm4] at h ⊢
    rw [← ht0]
    split at h
    · obtain ⟨a1,a2,a3,a3',ρ2',L2',G2',a4,a5⟩:=hl ρ1 L1 ρ2 L2 σ G1 G2 ρ1' L1' σ' G1' (fun t ht=>h1 t (by simp [AI.foot] at ht ⊢;rcases ht with h|h<;>simp [h])) h2 h3 h
      exact ⟨a1,a2,a3,a3',ρ2',L2',G2',a4,a5⟩
    · · cases h
        have hx:∀ t∈(⟨d,op,some (t0,want)⟩:AI).op.takes,ρ1 t=ρ2 t:=fun t ht=>h1 t (by
         have:=zlb op t ht
         simp [AI.foot,this])
        refine ⟨rfl,?_,fun _ _=>rfl,fun _=>rfl,put ρ2 d .skp,L2,G2,rfl,?_,?_,fun s hs=>(h2 s (hv s hs)).symm,fun _ _=>rfl,fun _=>rfl,fun e=>?_⟩
        · intro t ht
          simp only [AI.writes,List.mem_append,not_or] at ht
          exact zac ht.1
        · intro t ht
          by_cases hd:t∈d.toList
          · rw [zb4 hd,zb4 hd]
          · rw [zac hd,zac hd]
            simp only [AI.writes,List.mem_append] at ht
            rcases ht with h|h
            · exact absurd h hd
            · exact (hx t h).symm
        · intro t ht
          simp only [AI.writes,List.mem_append,not_or] at ht
          exact zac ht.1
        · rw [e] at h3;exact h3.symm
    · cases h
 · simp only [AI.writes,AI.foot,List.mem_append] at ht ⊢
   rcases ht with h|h
   · exact .inl (.inl h)
   · exact .inl (.inr (zlb a.op t h))
end Go.E2
namespace Go.E2
theorem zhq {c:Ctx} {ops:Array Oper}:∀ {l:List Oper} {as:List AI},zf8 c ops l=some as→as.length=l.length∧∀ (i:Nat) (o:Oper),l[i]?=some o→∃ a,as[i]?=some a∧zpy c ops o=some a
 | [],as,h=>by simp [zf8] at h;subst h;exact ⟨rfl,fun i o h=>by simp at h⟩
 | o::l,as,h=>by
   simp only [zf8] at h
   split at h
   · rename_i x xs hx hxs
     cases h
     obtain ⟨h1,h2⟩:=zhq hxs
     refine ⟨by simp [h1],fun i o' ho=>?_⟩
     cases i with
     | zero=>simp at ho;subst ho;exact ⟨x,rfl,hx⟩
     | succ i=>obtain ⟨a,ha,hc⟩:=h2 i o' (by simpa using ho);exact ⟨a,by simpa using ha,hc⟩
   · cases h
def Ret (S:Stb) (w:World) (G:Gh) (base:Nat):AV→Value→Prop
 | .d x,v=>VRD S x v
 | .own sz es,v=>∃ R,zgj S w sz es v R∧∀ g,R=some g→base≤g∧G g=none
 | .tup xs,v=>∃ vs:Array Value,v=.tuple vs∧zz S xs vs.toList
 | _,_=>False
def zbt (lv:List Hp) (ms:List (Nat→Nat)) (G:Gh) (b:Nat):Prop:=(∃ k s cs,zds lv ms k s b cs)∨(∃ cs,G b=some cs)∨∃ o,G.m b=some o
structure zz3 (n:Nat) (lv:List Hp) (ms:List (Nat→Nat)) (G G':Gh):Prop where
 c:∀ b cs,G' b=some cs→b<n→(∃ cs0,G b=some cs0)∨∃ o,G.m b=some o
 m:∀ b o,G'.m b=some o→b<n→zbt lv ms G b
theorem zz3.refl (n:Nat) (lv:List Hp) (ms:List (Nat→Nat)) (G:Gh):zz3 n lv ms G G:=⟨fun _ cs h _=>.inl ⟨cs,h⟩,fun _ o h _=>.inr (.inr ⟨o,h⟩)⟩
def ze3 (P : Program) (f : FuncId) : Prop := ∃ fn c, P.funcs[f]? = some fn ∧ fn.body = some c ∧ (fn.name == "runtime.NumGoroutine") = false
theorem zbp {P:Program} {w:World} {f:FuncId} {args:Array Value} (h:ze3 P f):(callFunc f args).run P w=.ok (.enter f args) w:=by
 obtain ⟨fn,c,hf,hb,hn⟩:=h
 have hn' : ¬ (fn.name = "runtime.NumGoroutine") := by simpa using hn
 simp [callFunc,hf,hn',hb]
def zo1 (S:Stb) (ms:List (Nat→Nat)) (w:World) (σ:List Hp) (G:Gh) (Q:AV→List Hp→Gh→Prop) (v:Value) (w':World):Prop :=
 ∃ S' r σ' G',Q r σ' G'∧zcw S' ms σ' G' w'∧Evo w.heap.size (zbt σ ms G) S w S' w'∧zah σ σ'∧Ret S' w' G' w.heap.size r v∧zz3 w.heap.size σ ms G G'
theorem zo1.mono {S:Stb} {ms:List (Nat→Nat)} {w:World} {σ:List Hp} {G:Gh} {Q Q':AV→List Hp→Gh→Prop} {v:Value} {w':World} (h:zo1 S ms w σ G Q v w') (hq:∀ r σ' G',Q r σ' G'→Q' r σ' G'):zo1 S ms w σ G Q' v w':=by
 obtain ⟨S',r,σ',G',hQ,rest⟩:=h
 exact ⟨S',r,σ',G',hq _ _ _ hQ,rest⟩
def zhr (P:Program) (f:FuncId) (args:Array Value) (w:World) (R:Value→World→Prop):Prop :=
 (ze3 P f∧Calls P f args w fun e w'=>∃ v,e=.returned v∧R v w')∨∃ v w',(callFunc f args).run P w=.ok (.value v) w'∧R v w'
theorem zhr.mono {P:Program} {f:FuncId} {args:Array Value} {w:World} {R R':Value→World→Prop} (h:zhr P f args w R) (hr:∀ v w',R v w'→R' v w'):zhr P f args w R':=by
 rcases h with ⟨hc,h⟩|⟨v,w',h,hR⟩
 · exact .inl ⟨hc,h.mono fun _ _ ⟨v,he,hR⟩=>⟨v,he,hr _ _ hR⟩⟩
 · exact .inr ⟨v,w',h,hr _ _ hR⟩
def zbb (P:Program) (f:FuncId) (vs:List AV) (σ:List Hp) (G:Gh) (Q:AV→List Hp→Gh→Prop):Prop :=
 ∀ (S:Stb) (ms:List (Nat→Nat)) (w:World) (args:Array Value) (m0:Nat→Nat),args.size=vs.length→zcw S ms σ G w→(∀ i,VR S (zm5::σ) (m0::ms) (ofL vs i) (args.getD i undef))→(∀ i sz es,ofL vs i≠.own sz es) →
 zhr P f args w (zo1 S ms w σ G Q)
theorem zbb.mono {P:Program} {f:FuncId} {vs:List AV} {σ:List Hp} {G:Gh} {Q Q':AV→List Hp→Gh→Prop} (h:zbb P f vs σ G Q) (hq:∀ r σ' G',Q r σ' G'→Q' r σ' G'):zbb P f vs σ G Q' :=
 fun S ms w args m0 h0 h1 h2 h3=>(h S ms w args m0 h0 h1 h2 h3).mono fun _ _ hp=>hp.mono hq
def zk2 (P:Program) (l:Nat) (vs:List D) (σ:List Hp) (G:Gh) (Q:AV→List Hp→Gh→Prop):Prop :=
 ∀ (S:Stb) (ms:List (Nat→Nat)) (w:World) (args:Array Value),zcw S ms σ G w→zz S vs args.toList →
 ∃ f tmps assign body,(Instr.yield l args).run P w=.ok (.round l f tmps assign body) w∧RoundIn Fence.wide 0 P l f tmps assign body w fun e w'=>∃ v,e=.returned v∧zo1 S ms w σ G Q v w'
theorem zk2.mono {P:Program} {l:Nat} {vs:List D} {σ:List Hp} {G:Gh} {Q Q':AV→List Hp→Gh→Prop} (h:zk2 P l vs σ G Q) (hq:∀ r σ' G',Q r σ' G'→Q' r σ' G'):zk2 P l vs σ G Q':=by
 intro S ms w args h1 h2
 obtain ⟨f,tmps,assign,body,hr,hd⟩:=h S ms w args h1 h2
 exact ⟨f,tmps,assign,body,hr,hd.mono fun e w' ⟨v,he,hp⟩=>⟨v,he,hp.mono hq⟩⟩
abbrev FW (rd:Option Nat):Fence:={ Fence.wide with round:=rd }
theorem zdf {lv lv':List Hp} {ms:List (Nat→Nat)} (hs:zah lv lv') {k s b:Nat} {cs:List D} (h:zds lv' ms k s b cs):∃ cs',zds lv ms k s b cs':=by
 obtain ⟨x,m,h1,h2,h3,h4⟩:=h
 have hlt:=(List.getElem?_eq_some_iff.1 h1).1
 obtain ⟨y,hy⟩:∃ y,lv[k]?=some y:=⟨_,List.getElem?_eq_getElem (by rw [← hs.1];exact hlt)⟩
 have e:=(hs.2 k y x hy h1 s).2
 cases hc:(y s).c with
 | none=>rw [e.2 hc] at h3;cases h3
 | some cs'=>exact ⟨cs',y,m,hy,h2,hc,h4⟩
section
variable {P:Program} {S:Stb} {ms:List (Nat→Nat)} {ow:Nat→Option Nat} {base:Nat} {O:Nat→Prop} {ρ:Env} {L:Hp} {σ:List Hp} {G:Gh} {a:Act} {w:World}
theorem zcw.outer_obj {lv:List Hp} (h:zcw S ms lv G w) {b:Nat} (ho:zbt lv ms G b) {x:Obj} (hx:w.heap[b]?=some x):(∃ c e f,x=.cells c e f)∨isM x=true:=by
 rcases ho with ⟨k,s,cs,hl⟩|⟨cs,hg⟩|⟨o,hm⟩
 · obtain ⟨vs,e,hv,_⟩:=h.box hl
   rw [hv] at hx;cases hx;exact .inl ⟨_,_,_,rfl⟩
 · obtain ⟨vs,e,hv,_⟩:=h.gbox hg
   rw [hv] at hx;cases hx;exact .inl ⟨_,_,_,rfl⟩
 · obtain ⟨y,hy,hi⟩:=h.x.get hm
   rw [hy] at hx;cases hx;exact .inr hi
theorem zlc [DD] {O:Nat→Prop} {S':Stb} {w':World} {ds:List Deferred} (h:zgk base ds w) (he:Evo w.heap.size O S w S' w') (hO:∀ b x,O b→w.heap[b]?=some x→(∃ c e f,x=.cells c e f)∨isM x=true):zgk base ds w' :=
 h.keep fun r _ hr=>(he.keep r (Array.getElem?_eq_some_iff.1 hr).1 fun ho=>by
  rcases hO r _ ho hr with ⟨c,e,f,e1⟩|e1
  · cases e1
  · cases e1).trans hr
theorem zgj.cells {sz:Nat} {es:List D} {v:Value} {g:Nat} (h:zgj S w sz es v (some g)):∃ c e f,w.heap[g]?=some (.cells c e f):=by
 obtain ⟨cap,cur,e,_,⟨f,h2,_⟩,_⟩:=h
 exact ⟨cur,e,f,h2⟩
theorem zmh.not_own {g:Nat} (h:zmh S G w) {o:MO} (hm:G.m g=some o) {sz:Nat} {es:List D} {v:Value} (ho:zgj S w sz es v (some g)):False:=by
 obtain ⟨x,hx,hi⟩:=h.get hm
 obtain ⟨c,e,_,hc⟩:=ho.cells
 rw [hc] at hx;cases hx;cases hi
theorem Rel.called [DD] (h:Rel S ms ow base O ρ L σ G a w) {S':Stb} {L':Hp} {σ':List Hp} {G':Gh} {w':World} (hr:zcw S' ms (L'::σ') G' w') (he:Evo w.heap.size (zbt (L::σ) ms G) S w S' w') (hs:zah (L::σ) (L'::σ'))
 (hG:zz3 w.heap.size (L::σ) ms G G') :
 Rel S' ms ow base O ρ L' σ' G' a w'∧Evo base O S w S' w':=by
 have hO:∀ b,b<base→¬ O b→¬ zbt (L::σ) ms G b:=by
  rintro b hb hn (⟨k,s,cs,hl⟩|⟨cs,hg⟩|⟨o,hm⟩)
  · cases k with
    | zero=>exact absurd (h.new hl) (by omega)
    | succ k=>exact hn (h.old hl).2
  · exact hn (h.gold hg hb)
  · exact hn (h.mold hm hb)
 have hno:∀ {i sz es g},ρ i=.own sz es→ow i=some g→¬ zbt (L::σ) ms G g:=by
  rintro i sz es g hi gi (⟨k,s,cs,hl⟩|⟨cs,hg⟩|⟨o,hm⟩)
  · exact (h.ownB hi gi).2.2 _ _ _ hl
  · rw [(h.ownB hi gi).2.1] at hg;cases hg
  · have ho:=h.own hi
    rw [gi] at ho
    exact h.h.x.not_own hm ho
 refine ⟨{ h:=hr,tmp:=fun i=>((h.tmp i).mono he.sub).shape hs,own:=fun {i sz es} hi=>?_,ownI:=h.ownI,ownB:=fun {i sz es g} hi gi=>?_,new:=fun {s b cs} hl=>?_,old:=fun {k s b cs} hl=>?_,gold:=fun {b cs} hb hlt=>?_,mold:=fun {b o} hb hlt=>?_,dfs:=zlc h.dfs he fun b x ho hx=>h.h.outer_obj ho hx,bas:=Nat.le_trans h.bas he.sz },
  ⟨he.sz,fun b hb hn=>he.keep b (Nat.lt_of_lt_of_le hb h.bas) (hO b hb hn),fun ad hb=>he.st ad (Nat.lt_of_lt_of_le hb h.bas),he.sub,he.os,he.tape,he.out⟩⟩
 · have hown:=h.own hi
   exact hown.mono he.sub (fun g hg=>by
    rw [hg] at hown
    exact he.keep g hown.lt (hno hi hg)) (fun g hg off sp=>by
    rw [hg] at hown
    exact he.st ⟨g,off,sp⟩ hown.lt)
 · refine ⟨(h.ownB hi gi).1,?_,fun k s cs hl=>by obtain ⟨cs',hl'⟩:=zdf hs hl;exact (h.ownB hi gi).2.2 _ _ _ hl'⟩
   have hown:=h.own hi
   rw [gi] at hown
   cases hg:G' g with
   | none=>rfl
   | some cs =>
    rcases hG.c g cs hg hown.lt with ⟨cs0,h0⟩|⟨o,h0⟩
    · rw [(h.ownB hi gi).2.1] at h0;cases h0
    · exact (h.h.x.not_own h0 hown).elim
 · obtain ⟨cs',hl'⟩:=zdf hs hl;exact h.new hl'
 · obtain ⟨cs',hl'⟩:=zdf hs hl;exact h.old hl'
 · rcases hG.c b cs hb (Nat.lt_of_lt_of_le hlt h.bas) with ⟨cs0,h0⟩|⟨o,h0⟩
   · exact h.gold h0 hlt
   · exact h.mold h0 hlt
 · rcases hG.m b o hb (Nat.lt_of_lt_of_le hlt h.bas) with ⟨k,s,cs,hl⟩|⟨cs,h0⟩|⟨o,h0⟩
   · cases k with
     | zero=>exact absurd (h.new hl) (by omega)
     | succ k=>exact (h.old hl).2
   · exact h.gold h0 hlt
   · exact h.mold h0 hlt
theorem Rel.calledQ [DD] (h:Rel S ms ow base O ρ L σ G a w) {S':Stb} {G':Gh} {w':World} (hr:zcw S' [] [] G' w') (he:Evo w.heap.size (zbt [] [] G) S w S' w') (hG:zz3 w.heap.size [] [] G G') :
 Rel S' ms ow base O ρ L σ G' a w'∧Evo base O S w S' w':=by
 have hO:∀ b,G b=none→(∀ o,G.m b≠some o)→¬ zbt [] [] G b:=by
  rintro b hb hb2 (⟨k,s,cs,x,m,h1,_⟩|⟨cs,hg⟩|⟨o,hm⟩)
  · simp at h1
  · rw [hb] at hg;cases hg
  · exact hb2 o hm
 have liveM:∀ {k s b cs},zds (L::σ) ms k s b cs→∀ o,G.m b≠some o:=fun {k s b cs} hl o hm=>by
  obtain ⟨x,hx,hi⟩:=h.h.x.get hm
  obtain ⟨vs,e,hv,_⟩:=h.h.box hl
  rw [hv] at hx;cases hx;cases hi
 have live0:∀ {k s b cs},zds (L::σ) ms k s b cs→G b=none:=fun {k s b cs} hl=>by
  cases hg:G b with
  | none=>rfl
  | some c=>exact absurd hl (h.h.gnl hg)
 have none':∀ {b},b<w.heap.size→G b=none→(∀ o,G.m b≠some o)→G' b=none:=fun {b} hb h0 h2=>by
  cases hg:G' b with
  | none=>rfl
  | some c =>
   rcases hG.c b c hg hb with ⟨c0,h1⟩|⟨o,h1⟩
   · rw [h0] at h1;cases h1
   · exact absurd h1 (h2 o)
 refine ⟨{ h:=?_,tmp:=fun i=>(h.tmp i).mono he.sub,own:=fun {i sz es} hi=>?_,ownI:=h.ownI,ownB:=fun {i sz es g} hi gi=>?_,new:=h.new,old:=h.old,gold:=fun {b cs} hb hlt=>?_,mold:=fun {b o} hb hlt=>?_,dfs:=zlc h.dfs he fun b x ho hx=>h.h.outer_obj (lv:=L::σ) (ms:=ms) (by
  rcases ho with ⟨k,s,cs,x,m,h1,_⟩|ho
  · simp at h1
  · exact .inr ho) hx,bas:=Nat.le_trans h.bas he.sz },?_⟩
 · refine ⟨hr.sub,h.h.len,fun hl=>(h.h.box hl).mono he.sub (he.keep _ (h.h.block_lt hl) (hO _ (live0 hl) (liveM hl))),fun {k s b cs} hl off sp=>?_,h.h.inj,hr.gbox,hr.gnos,fun {b cs k s c2} hb hl=>?_,hr.x,hr.tab⟩
   · rw [he.st ⟨b,off,sp⟩ (h.h.block_lt hl)];exact h.h.nos hl off sp
   · have:=none' (h.h.block_lt hl) (live0 hl) (liveM hl)
     rw [this] at hb;cases hb
 · have hown:=h.own hi
   exact hown.mono he.sub (fun g hg=>by
    rw [hg] at hown
    exact he.keep g hown.lt (hO g (h.ownB hi hg).2.1 fun o hm=>h.h.x.not_own hm hown)) (fun g hg off sp=>by
    rw [hg] at hown
    exact he.st ⟨g,off,sp⟩ hown.lt)
 · have hown:=h.own hi
   rw [gi] at hown
   exact ⟨(h.ownB hi gi).1,none' hown.lt (h.ownB hi gi).2.1 (fun o hm=>h.h.x.not_own hm hown),(h.ownB hi gi).2.2⟩
 · rcases hG.c b cs hb (Nat.lt_of_lt_of_le hlt h.bas) with ⟨c0,h0⟩|⟨o,h0⟩
   · exact h.gold h0 hlt
   · exact h.mold h0 hlt
 · rcases hG.m b o hb (Nat.lt_of_lt_of_le hlt h.bas) with ⟨k,s,cs,x,m,h1,_⟩|⟨cs,h0⟩|⟨o,h0⟩
   · simp at h1
   · exact h.gold h0 hlt
   · exact h.mold h0 hlt
 · refine ⟨he.sz,fun b hb hn=>he.keep b (Nat.lt_of_lt_of_le hb h.bas) (hO b ?_ fun o hm=>hn (h.mold hm hb)),fun ad hb=>he.st ad (Nat.lt_of_lt_of_le hb h.bas),he.sub,he.os,he.tape,he.out⟩
   cases hg:G b with
   | none=>rfl
   | some c=>exact absurd (h.gold hg hb) hn
theorem Rel.putRet [DD] (h:Rel S ms ow base O ρ L σ G a w) {n:Nat} (hn:∀ k s b cs,zds (L::σ) ms k s b cs→b<n) (hno:∀ i sz es g,ρ i=.own sz es→ow i=some g→g<n) (hb:base≤n) {d:Option Nat} {r:AV} {v:Value}
 (hr:Ret S w G n r v) (hd:∀ i,d=some i→i<a.tmps.size):∃ ow',Rel S ms ow' base O (E2.put ρ d r) L σ G (a.put d v) w:=by
 cases r with
 | d x=>exact ⟨ow,h.put (x:=.d x) hr (fun _ _ e=>by cases e) hd⟩
 | own sz es =>
  obtain ⟨R,ho,hR⟩:=hr
  cases d with
  | none=>exact ⟨ow,h⟩
  | some d =>
   refine ⟨upd ow d R,h.putOwn ho (fun g hg=>⟨Nat.le_trans hb (hR g hg).1,(hR g hg).2,fun k s cs hl=>?_,fun i sz' es' _ hi e=>?_⟩) (hd d rfl)⟩
   · have:=hn _ _ _ _ hl;have:=(hR g hg).1;omega
   · have:=hno i sz' es' g hi e;have:=(hR g hg).1;omega
 | tup xs=>exact ⟨ow,h.put (x:=.tup xs) hr (fun _ _ e=>by cases e) hd⟩
 | _=>exact hr.elim
end
end Go.E2
