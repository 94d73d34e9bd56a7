/-
 Operations that make memory or write it,and the step as a whole.
 Conditions: none;laws.
-/
import Derived.Test.YtlejjdbmmdghmaaEO5
namespace Go.E2
theorem zct {sz:Nat} {x:D} (h:zb sz x=true):x.cells.length=sz:=by simp [zb] at h;exact h.1
theorem zh3 {sz:Nat} {x:D} (h:zb sz x=true):x.cells.all D.one=true:=by simp [zb] at h;simpa using h.2
theorem z03 {sz:Nat} {es:List D} {i:Nat} {v:D} (h:es.all (zb sz)=true) (hv:zb sz v=true):(es.set i v).all (zb sz)=true:=by
 rw [List.all_eq_true] at h ⊢
 intro x hx
 rcases List.mem_or_eq_of_mem_set hx with h1|rfl
 · exact h x h1
 · exact hv
theorem zq9 {sz:Nat}:∀ {es:List D} {i:Nat} {v:D},es.all (zb sz)=true→zb sz v=true→i<es.length→zag (es.set i v)=zbv (zag es) v.cells (i * sz)
 | x::es,0,v,h,hv,_=>by
   simp only [List.all_cons,Bool.and_eq_true] at h
   have h1:=zct h.1
   have h2:=zct hv
   simp only [List.set_cons_zero,z7,zbv,Nat.zero_mul,List.take_zero,List.nil_append,Nat.zero_add,h2]
   rw [List.drop_append,← h1,List.drop_length,Nat.sub_self];simp
 | x::es,i+1,v,h,hv,hi=>by
   simp only [List.all_cons,Bool.and_eq_true] at h
   have h1:=zct h.1
   have ih:=zq9 h.2 hv (by simpa using hi)
   simp only [List.set_cons_succ,z7,ih,zbv]
   have e1:(i+1) * sz=x.cells.length+i * sz:=by rw [h1,Nat.add_mul,Nat.one_mul,Nat.add_comm]
   have t1:(x.cells++zag es).take ((i+1) * sz)=x.cells++(zag es).take (i * sz):=by
    rw [e1,List.take_append,List.take_of_length_le (Nat.le_add_right _ _),Nat.add_sub_cancel_left]
   have t2:∀ k,(x.cells++zag es).drop ((i+1) * sz+k)=(zag es).drop (i * sz+k):=by
    intro k
    rw [e1,Nat.add_assoc,List.drop_append,List.drop_eq_nil_of_le (Nat.le_add_right _ _),Nat.add_sub_cancel_left,List.nil_append]
   rw [t1,t2]
   simp [List.append_assoc]
section
variable {P:Program} {S:Stb} {ms:List (Nat→Nat)} {lv:List Hp} {ρ:Env} {a:Act} {w:World}
theorem zn5 (ht:zfc S lv ms ρ a) (sz:Nat):∀ (ps:List (Nat×Operand)) (ps':List (Nat×AO)) (vs:List D),zff ps=some ps'→zx ρ (ps'.map (·.2))=some vs →
 (ps.map fun p=>(p.1,a.eval p.2)).length=((ps'.zip vs).map fun (p,v)=>(p.1 * sz,sz,v)).length ∧
 ∀ (j:Nat) (p:Nat×Value) (q:Nat×Nat×D),(ps.map fun p=>(p.1,a.eval p.2))[j]?=some p→((ps'.zip vs).map fun (p,v)=>(p.1 * sz,sz,v))[j]?=some q →
   (some (p.1 * sz,sz):Option (Nat×Nat))=some (q.1,q.2.1)∧VRD S q.2.2 p.2
 | [],ps',vs,h,hd=>by
   simp [zff] at h
   subst h
   exact ⟨by simp,fun j p q hj=>by simp at hj⟩
 | (i,o)::ps,ps',vs,h,hd=>by
   simp only [zff] at h
   split at h
   · rename_i x xs hx hxs
     cases h
     simp only [List.map_cons,zx] at hd
     split at hd
     · rename_i y ys hy hys
       cases hd
       obtain ⟨hl,hp⟩:=zn5 ht sz ps xs ys hxs hys
       refine ⟨by simp at hl ⊢;exact hl,fun j p q hj hq=>?_⟩
       cases j with
       | zero =>
        simp at hj hq
        subst hj;subst hq
        exact ⟨rfl,(za ht hx).data hy⟩
       | succ j=>exact hp j p q (by simpa using hj) (by simpa using hq)
     · cases hd
   · cases h
theorem zu2 {sz:Nat}:∀ (pv:List ((Nat×AO)×D)) (es:List D),es.all (zb sz)=true→(pv.all fun p=>zb sz p.2)=true→(pv.all fun p=>decide (p.1.1<es.length))=true →
 (pv.foldl (fun es (p:(Nat×AO)×D)=>es.set p.1.1 p.2) es).all (zb sz)=true∧(pv.foldl (fun es (p:(Nat×AO)×D)=>es.set p.1.1 p.2) es).length=es.length ∧
 ziz (zag es) (pv.map fun (p,v)=>(p.1 * sz,sz,v))=some (zag (pv.foldl (fun es (p:(Nat×AO)×D)=>es.set p.1.1 p.2) es))
 | [],es,h,_,_=>⟨h,rfl,rfl⟩
 | (p,v)::pv,es,h,hv,hi=>by
   simp only [List.all_cons,Bool.and_eq_true,decide_eq_true_eq] at hv hi
   obtain ⟨h1,h2,h3⟩:=zu2 pv (es.set p.1 v) (z03 h hv.1) hv.2 (by simpa using hi.2)
   refine ⟨h1,h2.trans (by simp),?_⟩
   simp only [List.map_cons,ziz,List.foldl_cons]
   have hlen:=zw h
   have:p.1 * sz+sz≤(zag es).length:=by
    rw [hlen]
    have:(p.1+1) * sz≤es.length * sz:=Nat.mul_le_mul_right _ hi.1
    rw [Nat.add_mul,Nat.one_mul] at this
    exact this
   rw [if_pos ⟨zct hv.1,this⟩,← zq9 h hv.1 hi.1]
   exact h3
theorem zk7 {sz n:Nat} {z:D} (hz:zb sz z=true) {zv:List Value} (h:zz S z.cells zv) (hsz:0<sz) :
 zz S (zag (List.replicate n z)) ((List.range (n * sz)).map fun i=>zv.getD (i % sz) undef):=by
 have hl:=zct hz
 refine ⟨?_,fun j x v hx hv=>?_⟩
 · rw [zw (sz:=sz) (by simp [hz])]
   simp
 · have hj:j<n * sz:=by
    have:=(List.getElem?_eq_some_iff.1 hv).1
    simpa using this
   have hv':v=zv.getD (j % sz) undef:=by
    simp [hj] at hv
    simpa using hv.symm
   have hx':z.cells[j % sz]?=some x:=by
    have gen:∀ (n j:Nat),j<n * sz→(zag (List.replicate n z))[j]?=z.cells[j % sz]?:=by
     intro n
     induction n with
     | zero=>intro j hj;simp at hj
     | succ n ih =>
      intro j hj
      rw [List.replicate_succ,z7]
      by_cases hlt:j<sz
      · rw [List.getElem?_append_left (by omega),Nat.mod_eq_of_lt hlt]
      · rw [List.getElem?_append_right (by omega),hl,ih (j - sz) (by rw [Nat.add_mul] at hj;omega)]
        congr 1
        rw [Nat.mod_eq_sub_mod (by omega:sz≤j)]
    rw [← gen n j hj];exact hx
   have hzl:j % sz<zv.length:=by rw [h.1,hl];exact Nat.mod_lt _ hsz
   exact h.2 (j % sz) x v hx' (by rw [hv',List.getD_eq_getElem?_getD,List.getElem?_eq_getElem hzl];rfl)
theorem zj7 {t e:TypeId} {n sz:Nat} {z:List D} {ps:Array (Nat×Operand)} {ps':List (Nat×AO)} {vs:List D} {zd:D} (ht:zfc S lv ms ρ a)
 (hu:P.underlying t=some (.slice e)) (hsz:tsz P e=some sz) (hz:zdo P e=some z) (hzd:zd.cells=z) (hpos:0<sz) (hzl:z.length=sz) (hbig:n * sz≤2 ^ 24)
 (hps:zff ps.toList=some ps') (hvs:zx ρ (ps'.map (·.2))=some vs) (hall:vs.all (zb sz)=true) (hzok:zb sz zd=true) (hidx:(ps'.all fun p=>decide (p.1<n))=true) :
 ∃ cells:Array Value,(Instr.buildSlice t n (ps.map fun (i,y)=>(i,a.eval y))).run P w=.ok (.slice (some ⟨w.heap.size,0,none⟩) n n) (w.alloc (.cells cells e)) ∧
   zz S (zag ((ps'.zip vs).foldl (fun es (p:(Nat×AO)×D)=>es.set p.1.1 p.2) (List.replicate n zd))) cells.toList ∧
   ((ps'.zip vs).foldl (fun es (p:(Nat×AO)×D)=>es.set p.1.1 p.2) (List.replicate n zd)).all (zb sz)=true ∧
   ((ps'.zip vs).foldl (fun es (p:(Nat×AO)×D)=>es.set p.1.1 p.2) (List.replicate n zd)).length=n:=by
 obtain ⟨zv,hzr,hzs,hzo,i,hi,hiz⟩:=zbs (S:=S) hz
 subst hzd
 have hrep:(List.replicate n zd).all (zb sz)=true:=by simp [hzok]
 have hpv:((ps'.zip vs).all fun p=>zb sz p.2)=true:=by
  rw [List.all_eq_true] at hall ⊢
  exact fun p hp=>hall p.2 (List.of_mem_zip hp).2
 have hpi:((ps'.zip vs).all fun p=>decide (p.1.1<(List.replicate n zd).length))=true:=by
  rw [List.all_eq_true] at hidx ⊢
  intro p hp
  have:=hidx p.1 (List.of_mem_zip hp).1
  simpa using this
 obtain ⟨f1,f2,f3⟩:=zu2 (sz:=sz) (ps'.zip vs) (List.replicate n zd) hrep hpv hpi
 obtain ⟨hl,hp⟩:=zn5 ht sz ps.toList ps' vs hps hvs
 have hbase:=zk7 (S:=S) (n:=n) hzok hzs hpos
 obtain ⟨cells,hfill,hv⟩:=zmc (S:=S) (fun i=>some (i * sz,sz)) (ps.toList.map fun p=>(p.1,a.eval p.2)) _ (zag (List.replicate n zd)) ((List.range (n * sz)).map fun i=>zv.cells.toList.getD (i % sz) undef).toArray _ hl hp (by simpa using hbase) f3
 refine ⟨cells,?_,hv,f1,by simpa using f2⟩
 have hzcs:zv.cells.size=sz:=by have:=hzs.1;simp at this;omega
 have hcell0:(Array.range (n * sz)).map (fun i=>zv.cells[i % zv.cells.size]!)=((List.range (n * sz)).map fun i=>zv.cells.toList.getD (i % sz) undef).toArray:=by
  apply Array.ext'
  simp only [Array.toList_map,Array.toList_range]
  apply List.map_congr_left
  intro k _
  rw [hzcs]
  have hlt:k % sz<zv.cells.size:=by rw [hzcs];exact Nat.mod_lt _ hpos
  simp [hlt,getElem!_pos]
 have e:(ps.map fun p=>(p.1,a.eval p.2)).toList=ps.toList.map fun p=>(p.1,a.eval p.2):=by simp
 have hnb:¬ (n * sz > 2 ^ 24):=by omega
 simp only [Instr.buildSlice,Sem.run_bind,run_underlying hu,Result.andThen_ok,z6 hsz,hnb,if_false]
 by_cases hn0:n * sz=0
 · have hn:n=0:=by
    rcases Nat.mul_eq_zero.1 hn0 with h|h
    · exact h
    · omega
   subst hn
   have hp0:ps'=[]:=by
    cases ps' with
    | nil=>rfl
    | cons p l=>simp at hidx
   subst hp0
   have hpt:ps.toList=[]:=by
    cases hq:ps.toList with
    | nil=>rfl
    | cons q l =>
     rw [hq] at hps
     obtain ⟨q1,q2⟩:=q
     simp only [zff] at hps
     split at hps
     · cases hps
     · cases hps
   have hpe:ps=#[]:=by cases ps;simp at hpt;rw [hpt]
   subst hpe
   have hcells:cells=#[]:=by
    simp [Instr.fill] at hfill
    exact hfill
   subst hcells
   simp [Instr.fill,newRow]
   rw [show (Array.range 0)=(#[]:Array Nat) from Array.eq_empty_of_size_eq_zero (by simp)]
   simp
 · simp only [hn0,if_false,Sem.run_bind,hzr,Result.andThen_ok,Sem.run_pure]
   rw [hcell0,e,hfill]
   simp [newRow]
theorem zfa {S:Stb} {w:World} {b:Nat} {c0:Array Value} {e0:TypeId} {cs zs:List D} {us:List Value} (hc0:w.heap[b]?=some (.cells c0 e0 (0,0))) (hvc:zz S cs c0.toList) (hone:cs.all D.one=true) (hz:zz S zs us) (hzo:zs.all D.one=true) (off:Nat) :
 zeo S (w.setRow b (c0.toList.take off++us++c0.toList.drop (off+us.length)).toArray) b (zbv cs zs off):=by
 refine ⟨_,e0,setRow_heap w b c0 _ e0 (0,0) hc0,?_,?_⟩
 · unfold zbv
   rw [hz.1]
   exact ((hvc.take off).append hz).append (hvc.drop _)
 · unfold zbv
   rw [List.all_append,List.all_append,zdv hone,hzo,zcd hone];rfl
def zc9 [DD] (P:Program) (S:Stb) (ms:List (Nat→Nat)) (_ow:Nat→Option Nat) (base:Nat) (O:Nat→Prop) (σ:List Hp) (a:Act) (w:World) (o:Oper) (st:St):Prop :=
 ∃ v w' S' m' ow',((execOp a.eval o).run P w=.ok (.value v) w'∨((execOp a.eval o).run P w=.ok .skip w'∧v=undef)) ∧
   Rel S' (m'::ms.tail) ow' base O st.1 st.2.1 st.2.2.1 st.2.2.2 (a.put o.dst v) w'∧Evo base O S w S' w'∧zah σ st.2.2.1
theorem za8 [DD] {S:Stb} {ms:List (Nat→Nat)} {ow:Nat→Option Nat} {base:Nat} {O:Nat→Prop} {ρ:Env} {L:Hp} {σ:List Hp} {G:Gh} {a:Act} {w:World} (h:Rel S ms ow base O ρ L σ G a w):∃ m,ms=m::ms.tail:=by
 have:=h.h.len
 cases ms with
 | nil=>simp at this
 | cons m mt=>exact ⟨m,rfl⟩
end
section
variable {S:Stb} {ms:List (Nat→Nat)} {ow:Nat→Option Nat} {base:Nat} {O:Nat→Prop} {ρ:Env} {L:Hp} {σ:List Hp} {G:Gh} {a:Act} {w:World} {c:Ctx} {o:Oper}
theorem zsw [DD] (h:Rel S ms ow base O ρ L σ G a w) {aop:AOp} (hc:cOp c o.dst o.type o.op=some aop) (hn:aop.makes=false) (hd:∀ i,o.dst=some i→i<a.tmps.size) {x:AV}
 (hx:evP ρ (L::σ) G aop=some x):zc9 c.P S ms ow base O σ a w o (put ρ o.dst x,L,σ,G):=by
 obtain ⟨v,hr,hv,hno⟩:=zen h.h h.tmpT hc hn hx
 obtain ⟨m,hm⟩:=za8 h
 exact ⟨v,w,S,m,ow,.inl hr,by rw [← hm];exact h.put hv hno hd,Evo.refl _ _ _ _,zah.refl _⟩
theorem zn6 [DD] (h:Rel S ms ow base O ρ L σ G a w) {x:AO} {y:Operand} (hy:cO y=some x) (hr:(execOp a.eval o).run c.P w=.ok (.value (a.eval y)) w) (hd:∀ i,o.dst=some i→i<a.tmps.size) :
 zc9 c.P S ms ow base O σ a w o (put (zdb ρ x) o.dst (ev ρ x),L,σ,G):=by
 obtain ⟨m,hm⟩:=za8 h
 have hv:=za h.tmpT hy
 by_cases hown:∃ sz es,ev ρ x=.own sz es
 · obtain ⟨sz,es,he⟩:=hown
   obtain ⟨j,rfl⟩:∃ j,x=.t j:=by
    cases x with
    | t j=>exact ⟨j,rfl⟩
    | c z=>cases he
    | g z=>simp only [ev] at he;split at he<;>cases he
    | m z tab=>simp only [ev] at he;(repeat' split at he)<;>cases he
   have hρ:ρ j=.own sz es:=he
   have hyj:a.eval y=a.tmps.getD j undef:=by
    cases y with
    | tmp t=>simp [cO] at hy;subst hy;rfl
    | const v=>simp [cO] at hy
    | global g=>simp [cO] at hy
    | func f=>simp [cO] at hy
   have ho:=h.own hρ
   cases hdst:o.dst with
   | none =>
    refine ⟨a.eval y,w,S,m,ow,.inl hr,?_,Evo.refl _ _ _ _,zah.refl _⟩
    rw [← hm,hdst]
    exact h.give (.t j)
   | some d =>
    refine ⟨a.eval y,w,S,m,upd ow d (ow j),.inl hr,?_,Evo.refl _ _ _ _,zah.refl _⟩
    rw [← hm,hdst]
    simp only [put,he]
    rw [hyj]
    refine (h.give (.t j)).putOwn ho (fun g hg=>⟨(h.ownB hρ hg).1,(h.ownB hρ hg).2.1,(h.ownB hρ hg).2.2,fun i sz' es' _ hi e=>?_⟩) (hd d hdst)
    simp only [zdb,upd] at hi
    split at hi
    · exact absurd hi (zbu _ _)
    · rename_i hne;exact hne (h.ownI hi hρ e hg)
 · refine ⟨a.eval y,w,S,m,ow,.inl hr,?_,Evo.refl _ _ _ _,zah.refl _⟩
   rw [← hm]
   exact (h.give x).put hv (fun sz es e=>hown ⟨sz,es,e⟩) hd
theorem zfx {P:Program} {e:TypeId} {v:Value}:(newVar e v).run P w=.ok ⟨w.heap.size,0,none⟩ (w.alloc (.cells v.cells e)):=by
 simp [newVar,newRow]
theorem zu3 {P:Program} {w:World} {e:TypeId} (bs:ByteArray):∃ (cur:Array Value) (cap:Nat) (w':World),bs.size≤cap∧(Conv.stringToBytes e bs).run P w=.ok (.slice (some ⟨w.heap.size,0,none⟩) bs.size cap) w' ∧
 w'.heap.size=w.heap.size+1∧(∀ b,b<w.heap.size→w'.heap[b]?=w.heap[b]?)∧(∃ fr:Nat×Nat,w'.heap[w.heap.size]?=some (.cells cur e fr)∧(fr=(0,0)∨cur.size≤fr.1)∧cur.size=cap∧(bs.size≤maxLen→cap≤maxLen)) ∧
 (∀ (j:Nat) (u:Value),(bs.data.toList.map fun b=>Value.int .u8 b.toNat)[j]?=some u→cur[j]?=some u)∧w'.os=w.os∧w'.tape=w.tape∧w'.output=w.output:=by
 let cap:=grownCap w bs.size 0 e
 let cur:Array Value:=(bs.data.map fun b=>Value.int .u8 b.toNat)++Array.replicate (cap - bs.size) (.int .u8 0)
 let w1:=w.drew.alloc (.cells cur e)
 have hnew:w1.heap[w.heap.size]?=some (.cells cur e (0,0)):=zab (w:=w.drew)
 have hsh:w1.shape? w.heap.size=some (e,cur.size):=by simp [World.shape?,hnew]
 refine ⟨cur,cap,w1.freeze ⟨w.heap.size,cur.size,none⟩ 1,grownCap_ge w bs.size 0 e,?_,?_,?_,?_,?_,rfl,rfl,rfl⟩
 · have h1:(choose (.appendCap bs.size 0 e)).run P w=.ok cap w.drew:=by
    rfl
   have h2:(newRow e cur).run P w.drew=.ok ⟨w.heap.size,0,none⟩ w1:=by simp [newRow];rfl
   have h3:(markStringish ⟨w.heap.size,0,none⟩).run P w1=.ok () (w1.freeze ⟨w.heap.size,cur.size,none⟩ 1):=by
    simp only [markStringish,Sem.run_bind]
    have:(shape w.heap.size).run P w1=.ok (some (e,cur.size)) w1:=by simp [shape,Sem.run,hsh]
    simp only [this,Result.andThen_ok]
    rfl
   simp only [Conv.stringToBytes,Sem.run_bind,h1,Result.andThen_ok]
   have h2':=h2
   simp only [cur] at h2'
   rw [h2']
   simp only [Result.andThen_ok,h3,Sem.run_pure]
 · show (w1.freeze _ 1).heap.size=_
   simp only [World.freeze]
   simp
   exact za3 (w:=w.drew)
 · intro b hb
   simp only [World.freeze]
   simp [Array.getElem?_modify]
   rw [if_neg (by omega)]
   exact zq (w:=w.drew) hb
 · refine ⟨(cur.size,cur.size+1),?_,.inr (Nat.le_refl _),?_,grownCap_le_maxLen w bs.size 0 e⟩
   · simp only [World.freeze]
     simp [Array.getElem?_modify,hnew]
   · have:=grownCap_ge w bs.size 0 e
     have hbs:bs.data.size=bs.size:=rfl
     simp only [cur,Array.size_append,Array.size_map,Array.size_replicate,hbs]
     omega
 · intro j u hj
   have hlt:=(List.getElem?_eq_some_iff.1 hj).1
   simp only [cur]
   rw [Array.getElem?_append_left (by simpa using hlt)]
   simpa using hj
theorem zmf {P:Program} {S:Stb} {lv:List Hp} {ms:List (Nat→Nat)} {G:Gh} {w:World} (h:zcw S ms lv G w) {sz:Nat} {y:D} {v:Value} {m:Nat} {ys:List D} (hy:zb2 G sz y=some (m,ys)) (hv:VRD S y v) :
 ∃ news,zz S ys news∧ys.all D.one=true∧ys.length=m * sz∧(∀ w',(Builtin.lenOf v).run P w'=.ok m w')∧∀ w' k,(∀ ad,ad.block<w.heap.size→w'.cell? ad=w.cell? ad)→k≤m→(Builtin.firstCells sz k v).run P w'=.ok (news.take (k * sz)).toArray w':=by
 cases y with
 | nilS =>
  simp [zb2] at hy
  obtain ⟨rfl,rfl⟩:=hy
  cases hv
  exact ⟨[],zz.nil,rfl,by simp,fun w'=>by simp [Builtin.lenOf],fun w' k _ hk=>by simp [Builtin.firstCells]⟩
 | list es =>
  simp only [zb2] at hy
  split at hy
  · rename_i hsz
    cases hy
    rcases hv.list_inv with ⟨rfl,rfl⟩|⟨ad,cap,c,rfl,hsp,hcap,_,hs,hS⟩
    · exact ⟨[],zz.nil,rfl,by simp [zag],fun w'=>by simp [Builtin.lenOf],fun w' k _ hk=>by simp [Builtin.firstCells]⟩
    refine ⟨c,hs,zfn hsz,zw hsz,fun w'=>by simp [Builtin.lenOf],fun w' k hw' hk=>?_⟩
    have hcl:c.length=es.length * sz:=by rw [hs.1,zw hsz]
    refine run_firstCells_some w' sz k ad es.length cap _ (by rw [List.length_take,hcl];exact Nat.min_eq_left (Nat.mul_le_mul_right _ hk)) fun j u hj=>?_
    have hp:0<cap:=by
     refine Nat.lt_of_lt_of_le (Nat.pos_of_ne_zero fun e=>?_) hcap
     rw [e,Nat.zero_mul] at hcl
     rw [List.eq_nil_of_length_eq_zero hcl] at hj;simp at hj
    have hsp:=hsp hp
    have had:ad=⟨ad.block,ad.off,none⟩:=by cases ad;simp at hsp;subst hsp;rfl
    rw [had,zao]
    rw [List.getElem?_take] at hj
    split at hj
    · have h1:=hS j u hj
      rw [hw' _ (h.S_lt h1)]
      exact h.sub _ _ h1
    · cases hj
  · cases hy
 | gs b off n cap =>
  simp only [zb2] at hy
  split at hy
  · rename_i cs hcs
    split at hy
    · rename_i hfit
      cases hy
      cases hv
      obtain ⟨c0,e0,hc0,hvc,hone⟩:=h.gbox hcs
      have hcl:c0.toList.length=cs.length:=hvc.1
      refine ⟨(c0.toList.drop off).take (m * sz),(hvc.drop _).take _,zdv (zcd hone _) _,by rw [List.length_take,List.length_drop];omega,fun w'=>by simp [Builtin.lenOf],fun w' k hw' hk=>?_⟩
      have hkm:k * sz≤m * sz:=Nat.mul_le_mul_right _ hk
      refine run_firstCells_some w' sz k ⟨b,off,none⟩ m cap _ (by rw [List.length_take,List.length_take,List.length_drop];omega) fun j u hj=>?_
      rw [zao]
      rw [List.take_take,List.getElem?_take] at hj
      split at hj
      · rw [List.getElem?_drop] at hj
        rw [hw' _ (h.g_lt hcs)]
        simpa [World.cell?,hc0] using hj
      · cases hj
    · cases hy
  · cases hy
 | _=>simp [zb2] at hy
theorem zsx [DD] (h:Rel S ms ow base O ρ L σ G a w) {dst:Option Nat} {x y:Operand} {t u ty e:TypeId} {pos:String} {after:Array Edge} {guard:Option (Nat×Bool)} {x' y':AO} (hd:∀ i,dst=some i→i<a.tmps.size) {st:St}
 (hx1:cO x=some x') (hy1:cO y=some y') (ht1:zea c.P t=some e) (hs1:tsz c.P e=some 1) (hb1:tby c.P e=some 1) (hz1:zdo c.P e=some [.int .u8 0]) {k:IntKind} (hu1:c.P.underlying u=some (.int k))
 (hx:zm dst (.append 0 0 x' y') ρ L σ G=some st) :
 zc9 c.P S ms ow base O σ a w ⟨dst,.call { callee:=.builtin .append,args:=⟨[x,y]⟩,argTypes:=⟨[t,u]⟩ },ty,pos,after,guard⟩ st:=by
 obtain ⟨m0,hm⟩:=za8 h
 have hut:c.P.underlying t=some (.slice e):=by
  unfold zea at ht1
  split at ht1
  · cases ht1;assumption
  · cases ht1
 obtain ⟨i,hi,his⟩:=zcs hs1
 have hby:i.bytes=1:=by unfold tby at hb1;rw [hi] at hb1;simp at hb1;exact hb1
 obtain ⟨zv,_,hzs,hzo,i',hi',hiz⟩:=zbs (S:=S) hz1
 rw [hi] at hi'
 cases hi'
 have hzsz:zv.cells.size=i.size:=by have:=hzs.1;simp at this;omega
 simp only [zm] at hx
 split at hx
 · rename_i d yd hyd
   simp only [Option.map_eq_some_iff] at hx
   obtain ⟨r,hr,rfl⟩:=hx
   have hyv:VRD S yd (a.eval y):=(za h.tmpT hy1).data hyd
   simp only [zbc,if_true] at hr
   unfold zu9 at hr
   split at hr
   · simp at hr
   · rename_i s es k2 m2 hxe
     split at hr
     · rename_i hc2
       obtain ⟨rfl,_,hm0,hmb⟩:=hc2
       cases hr
       obtain ⟨m',rfl⟩:∃ m':Nat,m2=m':=⟨m2.toNat,by omega⟩
       have hyi:a.eval y=.int k2 m':=VRD.int_inv hyv
       obtain ⟨j,rfl⟩:∃ j,x'=.t j:=by
        cases x' with
        | t j=>exact ⟨j,rfl⟩
        | c y=>simp [ev] at hxe
        | g y=>simp only [ev] at hxe;split at hxe<;>cases hxe
        | m y tab=>simp only [ev] at hxe;(repeat' split at hxe)<;>cases hxe
       have hxj:a.eval x=a.tmps.getD j undef:=by
        cases x with
        | tmp t=>simp [cO] at hx1;subst hx1;rfl
        | const v=>simp [cO] at hx1
        | global g=>simp [cO] at hx1
        | func f=>simp [cO] at hx1
       have hzone:∀ v∈(Builtin.zeroCells zv.cells m').toList,v.oneCell'=true:=(zcp hzs m').one (ze2 hzo m')
       have hrl:(List.replicate m' (D.int .u8 0)).length=m':=List.length_replicate
       have hmb':m' * i.bytes≤mostBytes:=by rw [hby,Nat.mul_one];simp at hmb;omega
       obtain ⟨v,w',S',ow',h1,h2,h3⟩:=zy6 (P:=c.P) (t:=t) (u:=u) (ty:=ty) (e:=e) (i:=i) (z:=zv) h hzsz (by omega) (xv:=a.eval x) (yv:=a.eval y) hxj (es:=es) (by rw [his];exact hxe) (ys:=List.replicate m' (D.int .u8 0)) (news:=(Builtin.zeroCells zv.cells m').toList)
        (by
          have:zag (List.replicate m' (D.int .u8 0))=rep m' [D.int .u8 0]:=by
           clear hmb hyi hzone hrl hmb' hyv hyd hm0
           induction m' with
           | zero=>rfl
           | succ m ih=>rw [List.replicate_succ,z7,ih];simp [rep,List.replicate_succ];rfl
          rw [this];exact zcp hzs m')
        (by rw [his,List.all_eq_true];intro q hq;rw [(List.mem_replicate.1 hq).2];rfl)
        (by rw [hrl,hby,Nat.mul_one];simpa using hmb)
        (fun b n cap hys hxb hroom=>by
          have hm0:m'=0:=by rw [← hrl,hys];rfl
          subst hm0
          rw [hxb,hyi]
          exact zl2 w t u ty e k i zv hut hu1 hi hiz b n cap k2 hroom)
        (fun g n cap cur eb hxg hg hroom hfit=>by
          rw [hxg,hyi]
          rw [hrl] at hroom ⊢
          have:=zgv w t u ty e k i zv hut hu1 hi hiz hzsz _ g 0 n cap rfl cur eb hg k2 m' hmb' (by omega) hzone hroom (by rw [Array.length_toList,zde,hzsz] at hfit;omega)
          simpa only [Nat.zero_add] using this)
        (fun b n cap olds hxb hso' hcap h63 hfit=>by
          rw [hxb,hyi]
          rw [hrl] at hcap h63 hfit ⊢
          have:=zgw w t u ty e k i zv hut hu1 hi hiz hzsz b n cap olds hso' k2 m' hmb' (by omega) hcap h63 hfit
          simpa using this) (hd d rfl)
       refine ⟨v,w',S',m0,ow',.inl ?_,?_,h3,zah.refl _⟩
       · simp only [execOp,resolve,invoke,Sem.run_bind,Sem.run_pure,Result.andThen_ok,Go.builtin,List.map_toArray,List.map_cons,List.map_nil,h1]
       · rw [← hm]
         rw [his] at h2
         exact h2
     · cases hr
   · cases hr
 · cases hx
theorem zu4 [DD] (h:Rel S ms ow base O ρ L σ G a w) {dst:Option Nat} {as:List Operand} {ts:List TypeId} {ty:TypeId} {pos:String} {after:Array Edge} {guard:Option (Nat×Bool)} {aop:AOp}
 (hc:zck c dst { callee:=.builtin .copy,args:=⟨as⟩,argTypes:=⟨ts⟩ } ty=some aop) (hd:∀ i,dst=some i→i<a.tmps.size) {st:St} (hx:zm dst aop ρ L σ G=some st) :
 zc9 c.P S ms ow base O σ a w ⟨dst,.call { callee:=.builtin .copy,args:=⟨as⟩,argTypes:=⟨ts⟩ },ty,pos,after,guard⟩ st:=by
 obtain ⟨m0,hm⟩:=za8 h
 simp only [zck] at hc
 split at hc
 · rename_i x y t u
   split at hc
   · rename_i x' y' e e' hx1 hy1 he he'
     split at hc
     · rename_i sz hsz
       split at hc
       · rename_i hee
         subst hee
         cases hc
         have hut:c.P.underlying t=some (.slice e):=by
          unfold zea at he
          split at he
          · cases he;assumption
          · cases he
         simp only [zm] at hx
         split at hx
         · rename_i b off len cap yd e1 e2
           have hxv:=za h.tmpT hx1
           have hyv:=(za h.tmpT hy1).data e2
           obtain ⟨hxb,_⟩:=zhb hxv (b:=b) (off:=off) (len:=len) (cap:=cap) (by rw [e1];rfl)
           split at hx
           · rename_i cs m ys hcs hvw
             split at hx
             · rename_i hfit
               cases hx
               obtain ⟨news,hvn,hon,hyl,hlen,hfirst⟩:=zmf (P:=c.P) h.h hvw hyv
               obtain ⟨c0,e0,hc0,hvc,hone⟩:=h.h.gbox hcs
               have hcl:c0.size=cs.length:=by have:=hvc.1;simpa using this
               have hk1:min len m * sz≤len * sz:=Nat.mul_le_mul_right _ (Nat.min_le_left _ _)
               have hk2:min len m * sz≤m * sz:=Nat.mul_le_mul_right _ (Nat.min_le_right _ _)
               have hnl:(news.take (min len m * sz)).length=min len m * sz:=by rw [List.length_take,hvn.1,hyl];omega
               have hst:=run_storeCells_at c.P b off e0 (news.take (min len m * sz)) 0 c0 w hc0 (by rw [hnl,hcl];omega) ((hvn.take _).one (zdv hon _))
               have hf:=hfirst w (min len m) (fun _ _=>rfl) (Nat.min_le_right _ _)
               have hr:(execOp a.eval ⟨dst,.call { callee:=.builtin .copy,args:=⟨[x,y]⟩,argTypes:=⟨[t,u]⟩ },ty,pos,after,guard⟩).run c.P w=.ok (.value (.int .i64 (min len m:Nat))) (w.setRow b (c0.toList.take off++news.take (min len m * sz)++c0.toList.drop (off+(news.take (min len m * sz)).length)).toArray):=by
                simp only [Nat.add_zero] at hst
                have hmm:Nat.min m len=min len m:=Nat.min_comm _ _
                simp only [execOp,resolve,invoke,Sem.run_bind,Sem.run_pure,Result.andThen_ok,Go.builtin,List.map_toArray,List.map_cons,List.map_nil,hxb,Builtin.copy_]
                simp [hmm,hf,hst,goInt,run_underlying hut,hlen,z6 hsz]
               have hbox:=zfa (w:=w) hc0 hvc hone (hvn.take (min len m * sz)) (zdv hon _) off
               refine ⟨_,_,S,m0,ow,.inl hr,?_,Evo.store (b:=b) (by simp) (fun i hi=>setRow_other w b i _ hi) (h.gold hcs) rfl rfl rfl,zah.refl _⟩
               rw [← hm]
               refine (h.storeG hcs (by simp) (fun i hi=>setRow_other w b i _ hi) hbox).put (x:=.d (.int .i64 _)) ?_ (fun _ _ e=>by cases e) hd
               have:((min len m:Nat):Int)=min (len:Int) (m:Int):=by omega
               rw [this]
               exact VRD.int _ _
             · cases hx
           · cases hx
         · cases hx
       · cases hc
     · cases hc
   · cases hc
 · cases hc
theorem zmg [DD] (h:Rel S ms ow base O ρ L σ G a w) {aop:AOp} (hc:cOp c o.dst o.type o.op=some aop) (hd:∀ i,o.dst=some i→i<a.tmps.size) {st:St} (hx:zm o.dst aop ρ L σ G=some st) :
 zc9 c.P S ms ow base O σ a w o st:=by
 obtain ⟨m,hm⟩:=za8 h
 have dflt:∀ (aop':AOp),aop'=aop→aop'.makes=false→(evP ρ (L::σ) G aop').map (fun v=>((put ρ o.dst v,L,σ,G):St))=some st→zc9 c.P S ms ow base O σ a w o st:=by
  intro aop' he hn hx'
  subst he
  rw [Option.map_eq_some_iff] at hx'
  obtain ⟨x,hx',rfl⟩:=hx'
  exact zsw h hc hn hd hx'
 obtain ⟨dst,op,ty,pos,after,guard⟩:=o
 cases op with
 | move y =>
  have hc':=hc
  simp only [cOp,Option.map_eq_some_iff] at hc
  obtain ⟨y',hy,he⟩:=hc
  obtain ⟨tk,htk⟩:∃ tk,aop=.mv tk y':=⟨_,he.symm⟩
  subst htk
  cases tk with
  | false=>exact dflt _ rfl rfl (by simpa [zm] using hx)
  | true =>
   simp [zm] at hx
   subst hx
   exact zn6 h hy (by simp [execOp]) hd
 | assign y =>
  simp only [cOp,Option.map_eq_some_iff] at hc
  obtain ⟨y',hy,rfl⟩:=hc
  simp [zm] at hx
  subst hx
  exact zn6 h hy (by simp [execOp]) hd
 | alloc e =>
  simp only [cOp,Option.map_eq_some_iff] at hc
  obtain ⟨z,hz,rfl⟩:=hc
  simp only [zm] at hx
  split at hx
  · rename_i s
    cases hx
    obtain ⟨zv,hzr,hzs,hzo,_⟩:=zbs (S:=S) hz
    have hr:(execOp a.eval ⟨some s,.alloc e,ty,pos,after,guard⟩).run c.P w=.ok (.value (.pointer (some ⟨w.heap.size,0,none⟩))) (w.alloc (.cells zv.cells e)):=by
     simp only [execOp,Instr.alloc,Sem.run_bind,hzr,Result.andThen_ok,zfx,Sem.run_pure]
    refine ⟨_,_,S,upd m s w.heap.size,ow,.inl hr,?_,Evo.alloc h.bas _,zah.refl _⟩
    rw [hm] at h
    exact h.alloc hzs hzo (hd s rfl)
  · cases hx
 | box e y =>
  simp only [cOp] at hc
  split at hc
  · rename_i n y' hn hy
    cases hc
    simp only [zm] at hx
    split at hx
    · rename_i s z he
      split at hx
      · rename_i hok
        cases hx
        have hv:=(za h.tmpT hy).data he
        have hr:(execOp a.eval ⟨some s,.box e y,ty,pos,after,guard⟩).run c.P w=.ok (.value (.pointer (some ⟨w.heap.size,0,none⟩))) (w.alloc (.cells (a.eval y).cells e)):=by
         simp only [execOp,Instr.box,Sem.run_bind,zfx,Result.andThen_ok,Sem.run_pure]
        refine ⟨_,_,S,upd m s w.heap.size,ow,.inl hr,?_,Evo.alloc h.bas _,zah.refl _⟩
        rw [hm] at h
        exact h.alloc hv.cells.1 (zh3 hok) (hd s rfl)
      · cases hx
    · cases hx
  · cases hc
 | store t p q =>
  simp only [cOp] at hc
  split at hc
  · rename_i n p' q' hn hp hq
    cases hc
    simp only [zm] at hx
    split at hx
    · rename_i k s g off z e1 e2
      have hp':=za h.tmpT hp
      rw [e1] at hp'
      have hq':=(za h.tmpT hq).data e2
      split at hx
      · rename_i hok
        simp only [Bool.and_eq_true] at hok
        split at hx
        · rename_i cs hcs
          split at hx
          · rename_i hfit
            obtain ⟨b,hb,hl,c0,e0,hc0,hvc,hone⟩:=zj1 h.h hp' hcs
            have hzl:=zct hok.2
            have hzc:=hq'.cells
            have hzl':(a.eval q).cells.toList.length=n:=by rw [hzc.1.1,hzl]
            have hcl:c0.size=cs.length:=by have:=hvc.1;simpa using this
            have hst:=run_storeCells_at c.P b off e0 (a.eval q).cells.toList 0 c0 w hc0 (by rw [hzl',hcl];simpa using hfit) (hzc.1.one hzc.2)
            have hsv:(storeVar t ⟨b,off,none⟩ (a.eval q)).run c.P w=.ok () (w.setRow b (c0.toList.take off++(a.eval q).cells.toList++c0.toList.drop (off+(a.eval q).cells.toList.length)).toArray):=by
             have hsz:((a.eval q).cells.size≠n)=False:=by
              simp only [Array.length_toList] at hzl'
              simp [hzl']
             simp only [storeVar,Sem.run_bind,z6 hn,Result.andThen_ok,Sem.run_ite,hsz,if_false]
             simpa using hst
            have hr:(execOp a.eval ⟨dst,.store t p q,ty,pos,after,guard⟩).run c.P w=.ok .skip (w.setRow b (c0.toList.take off++(a.eval q).cells.toList++c0.toList.drop (off+(a.eval q).cells.toList.length)).toArray):=by
             simp [execOp,Instr.storeAt,hb,Instr.sureAddr,hsv]
            have hbox:zeo S (w.setRow b (c0.toList.take off++(a.eval q).cells.toList++c0.toList.drop (off+(a.eval q).cells.toList.length)).toArray) b (zbv cs z.cells off):=by
             refine ⟨_,e0,setRow_heap w b c0 _ e0 (0,0) hc0,?_,?_⟩
             · unfold zbv
               rw [hzc.1.1]
               exact ((hvc.take off).append hzc.1).append (hvc.drop _)
             · unfold zbv
               rw [List.all_append,List.all_append,zdv hone,hzc.2,zcd hone];rfl
            obtain ⟨hh,mm,hk,hmk,hcc,hmb⟩:=hl
            have hgg:(hh s).g=g:=by
             unfold blk at hcs
             rw [hk] at hcs
             simp only at hcs
             split at hcs
             · assumption
             · cases hcs
            have hOb:b<base→O b:=fun hlt=>by
             cases k with
             | zero=>exact absurd (h.new ⟨hh,mm,hk,hmk,hcc,hmb⟩) (by omega)
             | succ k=>exact (h.old ⟨hh,mm,hk,hmk,hcc,hmb⟩).2
            have hevo:Evo base O S w S (w.setRow b (c0.toList.take off++(a.eval q).cells.toList++c0.toList.drop (off+(a.eval q).cells.toList.length)).toArray) :=
             Evo.store (b:=b) (by simp) (fun i hi=>setRow_other w b i _ hi) hOb rfl rfl rfl
            have fin:∀ (L':Hp) (σ':List Hp),(L::σ).set k (upd hh s ⟨g,some (zbv cs z.cells off)⟩)=L'::σ'→zah σ σ'→zc9 c.P S ms ow base O σ a w ⟨dst,.store t p q,ty,pos,after,guard⟩ (put ρ dst .undef,L',σ',G):=by
             intro L' σ' he hsh
             have hrel:=h.store (cs:=zbv cs z.cells off) hk hcc hgg ⟨hh,mm,hk,hmk,hcc,hmb⟩ (w':=w.setRow b (c0.toList.take off++(a.eval q).cells.toList++c0.toList.drop (off+(a.eval q).cells.toList.length)).toArray)
              (by simp) (fun i hi=>setRow_other w b i _ hi) hbox he
             refine ⟨undef,_,S,m,ow,.inr ⟨hr,rfl⟩,?_,hevo,hsh⟩
             rw [← hm]
             exact hrel.put (x:=.undef) trivial (fun _ _ e=>by cases e) hd
            cases k with
            | zero =>
             simp only at hx
             cases hx
             simp at hk
             subst hk
             exact fin _ _ (by simp) (zah.refl _)
            | succ k =>
             simp only at hx
             simp at hk
             rw [hk] at hx
             simp at hx
             subst hx
             exact fin _ _ (by simp) (zn8 hk hcc hgg)
          · cases hx
        · cases hx
      · cases hx
    · rename_i b off z e1 e2
      have hp':=za h.tmpT hp
      rw [e1] at hp'
      have hb:=zf7 hp'
      have hq':=(za h.tmpT hq).data e2
      split at hx
      · rename_i hok
        simp only [Bool.and_eq_true] at hok
        split at hx
        · rename_i cs hcs
          split at hx
          · rename_i hfit
            cases hx
            obtain ⟨c0,e0,hc0,hvc,hone⟩:=h.h.gbox hcs
            have hzl:=zct hok.2
            have hzc:=hq'.cells
            have hzl':(a.eval q).cells.toList.length=n:=by rw [hzc.1.1,hzl]
            have hcl:c0.size=cs.length:=by have:=hvc.1;simpa using this
            have hst:=run_storeCells_at c.P b off e0 (a.eval q).cells.toList 0 c0 w hc0 (by rw [hzl',hcl];simpa using hfit) (hzc.1.one hzc.2)
            have hsv:(storeVar t ⟨b,off,none⟩ (a.eval q)).run c.P w=.ok () (w.setRow b (c0.toList.take off++(a.eval q).cells.toList++c0.toList.drop (off+(a.eval q).cells.toList.length)).toArray):=by
             have hsz:((a.eval q).cells.size≠n)=False:=by
              simp only [Array.length_toList] at hzl'
              simp [hzl']
             simp only [storeVar,Sem.run_bind,z6 hn,Result.andThen_ok,Sem.run_ite,hsz,if_false]
             simpa using hst
            have hr:(execOp a.eval ⟨dst,.store t p q,ty,pos,after,guard⟩).run c.P w=.ok .skip (w.setRow b (c0.toList.take off++(a.eval q).cells.toList++c0.toList.drop (off+(a.eval q).cells.toList.length)).toArray):=by
             simp [execOp,Instr.storeAt,hb,Instr.sureAddr,hsv]
            have hbox:=zfa (w:=w) hc0 hvc hone hzc.1 hzc.2 off
            refine ⟨undef,_,S,m,ow,.inr ⟨hr,rfl⟩,?_,Evo.store (b:=b) (by simp) (fun i hi=>setRow_other w b i _ hi) (h.gold hcs) rfl rfl rfl,zah.refl _⟩
            rw [← hm]
            exact (h.storeG hcs (by simp) (fun i hi=>setRow_other w b i _ hi) hbox).put (x:=.undef) trivial (fun _ _ e=>by cases e) hd
          · cases hx
        · cases hx
      · cases hx
    · cases hx
  · cases hc
 | buildSlice t n ps =>
  simp only [cOp] at hc
  split at hc
  · cases hc
  · rename_i e he
    have hu:c.P.underlying t=some (.slice e):=by
     unfold zea at he
     split at he
     · cases he;assumption
     · cases he
    split at hc
    · rename_i sz z g ps' hsz hz hg hps
      split at hc
      · rename_i hcond
        have main:∀ zd:D,zd.cells=z→aop=.mkslice sz n zd ps'→zc9 c.P S ms ow base O σ a w ⟨dst,.buildSlice t n ps,ty,pos,after,guard⟩ st:=by
         intro zd hzd ha
         subst ha
         simp only [zm,Option.map_eq_some_iff] at hx
         obtain ⟨x,hx,rfl⟩:=hx
         simp only [evP] at hx
         split at hx
         · rename_i vs hvs
           split at hx
           · rename_i hok
             cases hx
             simp only [Bool.and_eq_true] at hok
             obtain ⟨cells,hrun,hv,hall,hlen⟩:=zj7 (P:=c.P) (w:=w) h.tmpT hu hsz hz hzd hcond.1 hcond.2.1 hcond.2.2 hps hvs hok.1.1 hok.1.2 hok.2
             have hr:(execOp a.eval ⟨dst,.buildSlice t n ps,ty,pos,after,guard⟩).run c.P w=.ok (.value (.slice (some ⟨w.heap.size,0,none⟩) n n)) (w.alloc (.cells cells e)):=by
              simp only [execOp,Sem.run_bind,hrun,Result.andThen_ok,Sem.run_pure]
             generalize hes:(ps'.zip vs).foldl (fun es (p:(Nat×AO)×D)=>es.set p.1.1 p.2) (List.replicate n zd)=es at hv hall hlen
             have hgr:=h.grow (w':=w.alloc (.cells cells e)) (cur:=cells) (e:=e) (fr:=(0,0)) (vis:=cells.toList) za3 (fun b hb=>zq hb) zab (fun j u hj=>by simpa using hj) rfl rfl rfl
             have hcl:cells.size=n * sz:=by have:=hv.1;rw [zw hall,hlen] at this;simpa using this
             cases hdst:dst with
             | none =>
              refine ⟨_,_,zhp S w.heap.size cells.toList,m,ow,.inl hr,?_,hgr.2,zah.refl _⟩
              rw [← hm]
              subst hdst
              exact hgr.1
             | some d =>
              refine ⟨_,_,zhp S w.heap.size cells.toList,m,upd ow d (some w.heap.size),.inl hr,?_,hgr.2,zah.refl _⟩
              rw [← hm]
              subst hdst
              simp only [put]
              have htk:cells.toList.take (es.length * sz)=cells.toList:=List.take_of_length_le (by rw [hlen,← hcl];simp)
              rw [show (Value.slice (some ⟨w.heap.size,0,none⟩) n n)=.slice (some ⟨w.heap.size,0,none⟩) es.length n by rw [hlen]]
              refine hgr.1.putOwn (R:=some w.heap.size) ⟨n,cells,e,rfl,⟨_,zab,.inl rfl⟩,by omega,?_,hcl,hall,?_,?_,?_⟩ ?_ (hd d rfl)
              · have h1:n * 1≤n * sz:=Nat.mul_le_mul_left _ hcond.1
                have:=hcond.2.2
                have h63:maxLen=9223372036854775807:=rfl
                omega
              · rw [htk]
                exact hv.mono hgr.2.sub
              · intro j u hj
                rw [htk] at hj
                rw [zeh];exact hj
              · intro off sp ho
                rw [hlen,← hcl] at ho
                by_cases hsp:sp=none
                · subst hsp
                  rw [zeh,List.getElem?_eq_none (by simpa using ho)]
                · cases hS:zhp S w.heap.size cells.toList ⟨w.heap.size,off,sp⟩ with
                  | none=>rfl
                  | some q =>
                   simp [zhp,hsp] at hS
                   exact absurd (h.h.S_spot hS) hsp
              · intro g' hg'
                cases hg'
                refine ⟨h.bas,h.g_none,fun k s cs hl=>absurd (h.h.block_lt hl) (by omega),fun j sz' es' _ hj e=>?_⟩
                have hown:=h.own hj
                rw [e] at hown
                have:=hown.lt
                omega
           · cases hx
         · cases hx
        have noG:∀ zd:D,aop=.mkG sz n zd ps'→zc9 c.P S ms ow base O σ a w ⟨dst,.buildSlice t n ps,ty,pos,after,guard⟩ st:=fun zd ha=>by
         subst ha;simp [zm,evP] at hx
        split at hc
        · cases hc
          by_cases hin:zkz c dst=true
          · exact noG (.agg z) (by rw [if_pos hin])
          · exact main (.agg z) rfl (by rw [if_neg hin])
        · split at hc
          · rename_i z0
            cases hc
            by_cases hin:zkz c dst=true
            · exact noG z0 (by rw [if_pos hin])
            · refine main z0 ?_ (by rw [if_neg hin])
              obtain ⟨_,_,_,hzo,_⟩:=zbs (S:=S) hz
              exact D.cells_one (by simpa using hzo)
          · cases hc
      · cases hc
    · cases hc
 | call cl =>
  obtain ⟨callee,args,argTypes⟩:=cl
  obtain ⟨as⟩:=args
  obtain ⟨ts⟩:=argTypes
  cases callee with
  | value f =>
   simp only [cOp,zck] at hc
   split at hc
   · cases hc;simp [zm,evP] at hx
   · cases hc
  | invoke r m=>simp only [cOp] at hc;obtain ⟨_,_,_,_,_,rfl⟩:=zb5 hc;simp [zm,evP] at hx
  | builtin b =>
   by_cases hb:b=.append
   · subst hb
     obtain ⟨x,y,t,u,x',y',e,sz,by_,z,rfl,rfl,hx1,hy1,ht1,hs1,hb1,⟨hz1,hp1,hp2,hzl⟩,hcase⟩:=ze9 (c:=c) (dst:=dst) (by simpa [cOp] using hc)
     by_cases hmk:∃ k,c.P.underlying u=some (.int k)∧aop=.append 0 0 x' y'∧sz=1∧by_=1∧z=[.int .u8 0]
     · obtain ⟨k,hu1,rfl,rfl,rfl,rfl⟩:=hmk
       exact zsx h hd hx1 hy1 ht1 hs1 hb1 hz1 hu1 hx
     have hcase':(zea c.P u=some e∨c.P.underlying u=some .string)∧aop=.append sz by_ x' y':=by
      rcases hcase with ⟨h1,rfl⟩|⟨k,hk,rfl|hk2⟩
      · by_cases hin:zkz c dst=true
        · rw [if_pos hin] at hx;simp [zm,evP] at hx
        · rw [if_neg hin];exact ⟨h1,rfl⟩
      · simp [zm,evP] at hx
      · exact absurd ⟨k,hk,hk2⟩ hmk
     obtain ⟨hu1,rfl⟩:=hcase'
     have hut:c.P.underlying t=some (.slice e):=by
      unfold zea at ht1
      split at ht1
      · cases ht1;assumption
      · cases ht1
     have huu:zjd c.P u:=by
      rcases hu1 with hu1|hu1
      · unfold zea at hu1
        split at hu1
        · cases hu1;exact .inl ⟨_,by assumption⟩
        · cases hu1
      · exact .inr hu1
     obtain ⟨i,hi,rfl⟩:=zcs hs1
     have hby:by_=i.bytes:=by unfold tby at hb1;rw [hi] at hb1;simp at hb1;exact hb1.symm
     subst hby
     obtain ⟨zv,_,hzs,_,i',hi',hiz⟩:=zbs (S:=S) hz1
     rw [hi] at hi'
     cases hi'
     have hzsz:zv.cells.size=i.size:=by have:=hzs.1;simp at this;omega
     simp only [zm] at hx
     split at hx
     · rename_i d yd hyd
       simp only [Option.map_eq_some_iff] at hx
       obtain ⟨r,hr,rfl⟩:=hx
       obtain ⟨v,w',S',ow',h1,h2,h3⟩:=ztq (P:=c.P) (t:=t) (u:=u) (ty:=ty) h hut huu hi hiz hzsz hp1 hp2 (x:=x') (xv:=a.eval x)
        (fun j hj=>by
          subst hj
          cases x with
          | tmp t=>simp [cO] at hx1;subst hx1;rfl
          | const v=>simp [cO] at hx1
          | global g=>simp [cO] at hx1
          | func f=>simp [cO] at hx1) (za h.tmpT hx1) (fun y e=>by subst e;rfl) ((za h.tmpT hy1).data hyd) hr (hd d rfl)
       refine ⟨v,w',S',m,ow',.inl ?_,by rw [← hm];exact h2,h3,zah.refl _⟩
       simp only [execOp,resolve,invoke,Sem.run_bind,Sem.run_pure,Result.andThen_ok,Go.builtin,List.map_toArray,List.map_cons,List.map_nil,h1]
     · cases hx
   · by_cases hb2:b=.copy
     · subst hb2
       exact zu4 h (by simpa [cOp] using hc) hd hx
     refine dflt aop rfl ?_ ?_
     · cases b<;>simp [cOp,zck] at hc hb hb2
       all_goals (repeat' split at hc)<;>first|(cases hc;rfl)|cases hc
     · cases b<;>simp [cOp,zck] at hc hb hb2
       all_goals (repeat' split at hc)<;>first|(cases hc;simpa [zm] using hx)|cases hc
 | slice t y lo hi mx =>
  have hc0:=hc
  simp only [cOp] at hc
  split at hc
  · rename_i y' hy
    rcases zdh hc with ⟨_,_,l0,h0,_,_,rfl⟩|⟨e,sz,hu,hsz,⟨_,l0,h0,_,_,rfl⟩|⟨rfl,hzh,hzm,rfl⟩|⟨hi',mx',h',m',rfl,rfl,rfl,hh,hmm,rfl⟩|⟨_,_,_,_,_,_,_,_,_,_,rfl⟩⟩
    · exact dflt _ rfl rfl (by simpa [zm] using hx)
    · exact dflt _ rfl rfl (by simpa [zm] using hx)
    · simp only [zm,Option.map_eq_some_iff] at hx
      obtain ⟨x,hx,rfl⟩:=hx
      have hy':=za h.tmpT hy
      have hz0:∀ {o:Option Operand},zs2 o=true→o.map a.eval=some (.int .i64 0):=by
       intro o ho
       unfold zs2 at ho
       split at ho
       · rfl
       · cases ho
      have hrun:∀ (b:Option Addr) (len cap:Nat),a.eval y=.slice b len cap→(execOp a.eval ⟨dst,.slice t y none hi mx,ty,pos,after,guard⟩).run c.P w=.ok (.value (.slice b 0 0)) w:=by
       intro b len cap hv
       have e1:=hz0 hzh
       have e2:=hz0 hzm
       simp [execOp,hv,Instr.sliceAt,Instr.slice,run_underlying hu,e1,e2,Instr.sliceBounds,Instr.sliceBound,asIntOf,z6 hsz]
      simp only [evP] at hx
      have list:∀ {es:List D},VRD S (.list es) (a.eval y)→x=.own sz []→zc9 c.P S ms ow base O σ a w ⟨dst,.slice t y none hi mx,ty,pos,after,guard⟩ (put ρ dst x,L,σ,G):=by
       intro es hv hxe
       subst hxe
       obtain ⟨ad,len,cap,hb⟩:∃ (ad:Option Addr) (len cap:Nat),a.eval y=.slice ad len cap:=by
        rcases hv.list_inv with ⟨_,hb⟩|⟨ad,cap,c0,hb,hsp,_⟩
        · exact ⟨none,0,0,hb⟩
        · exact ⟨some ad,es.length,cap,hb⟩
       have hr:=hrun ad len cap hb
       cases hdst:dst with
       | none =>
        subst hdst
        exact ⟨_,w,S,m,ow,.inl hr,by rw [← hm];exact h,Evo.refl _ _ _ _,zah.refl _⟩
       | some d =>
        subst hdst
        refine ⟨_,w,S,m,upd ow d none,.inl hr,?_,Evo.refl _ _ _ _,zah.refl _⟩
        rw [← hm]
        exact h.putOwn (es:=[]) (R:=none) ⟨⟨ad,rfl⟩,zu8 ad,rfl⟩ (fun g hg=>by cases hg) (hd d rfl)
      split at hx
      · rename_i e0
        cases hx
        have hb:=VRD.nilS_inv (hy'.data e0)
        have hr:=hrun none 0 0 hb
        exact ⟨_,w,S,m,ow,.inl hr,by rw [← hm];exact h.put (x:=.d .nilS) (VRD.nilS (S:=S)) (fun _ _ e=>by cases e) hd,Evo.refl _ _ _ _,zah.refl _⟩
      · rename_i es e0
        cases hx;exact list (hy'.data e0) rfl
      · cases hx
    · simp only [zm,Option.map_eq_some_iff] at hx
      obtain ⟨x,hx,rfl⟩:=hx
      have hy':=za h.tmpT hy
      simp only [evP] at hx
      split at hx
      · rename_i es k1 k2 e0 e1 e2
        split at hx
        · rename_i hcond
          obtain ⟨hse,rfl,rfl⟩:=hcond
          cases hx
          have hr:∃ ad,VRD S (.list es) (.slice ad es.length es.length)∧(execOp a.eval ⟨dst,.slice t y none (some hi') (some mx'),ty,pos,after,guard⟩).run c.P w=.ok (.value (.slice ad es.length es.length)) w:=by
           have b1:∀ n,bnd ρ n (some h')=some (es.length:Int):=fun n=>by simp only [bnd,e1]
           have b2:∀ n,bnd ρ n (some m')=some (es.length:Int):=fun n=>by simp only [bnd,e2]
           rcases (zcy hy' e0).2 es rfl with ⟨rfl,oa,hpv⟩|⟨b,off,cap,c0,hpv,hcap,hvc,hS⟩
           · have hr:=zgh (P:=c.P) (w:=w) (isSlice:=true) (len:=0) (cap:=0) (lo:=none) (lo':=none) h.tmpT rfl hh hmm (l:=0) rfl (b1 _) (b2 _) (by omega) (by simp) (by simp) (by simp)
             rw [Option.map_none] at hr
             refine ⟨oa,.empty rfl,?_⟩
             cases oa<;>simp only [execOp,hpv,Sem.run_bind,Instr.sliceAt,Instr.slice,run_underlying hu,Result.andThen_ok,Option.map_some,Option.map_none,hr,z6 hsz,Sem.run_pure]
             · simp
             · simp
           · have hr:=zgh (P:=c.P) (w:=w) (isSlice:=true) (len:=es.length) (cap:=cap) (lo:=none) (lo':=none) h.tmpT rfl hh hmm (l:=0) rfl (b1 _) (b2 _) (by omega) (by omega) (by omega) (by omega)
             rw [Option.map_none] at hr
             refine ⟨some ⟨b,off,none⟩,VRD.list_mk (c:=c0) rfl (Nat.le_refl _) hse hvc hS,?_⟩
             simp only [execOp,hpv,Sem.run_bind,Instr.sliceAt,Instr.slice,run_underlying hu,Result.andThen_ok,Option.map_some,Option.map_none,hr,z6 hsz,Sem.run_pure]
             by_cases hcl:es.length=0
             · simp [hcl]
             · simp [hcl,zao]
          obtain ⟨ad,hvr,hr⟩:=hr
          cases hdst:dst with
          | none =>
           subst hdst
           exact ⟨_,w,S,m,ow,.inl hr,by rw [← hm];exact h,Evo.refl _ _ _ _,zah.refl _⟩
          | some d =>
           subst hdst
           refine ⟨_,w,S,m,upd ow d none,.inl hr,?_,Evo.refl _ _ _ _,zah.refl _⟩
           rw [← hm]
           exact h.putOwn (es:=es) (R:=none) ⟨⟨ad,rfl⟩,hvr,hse⟩ (fun g hg=>by cases hg) (hd d rfl)
        · cases hx
      · cases hx
    · exact dflt _ rfl rfl (by simpa [zm] using hx)
  · cases hc
 | convert s d y =>
  have hc0:=hc
  simp only [cOp] at hc
  split at hc
  · rename_i y' hy
    by_cases hown:aop=.append 1 0 (.c (.str [])) y'
    · subst hown
      unfold zmj at hc
      (repeat' split at hc)<;>(try (cases hc;done))
      rename_i e hs hdd hcond hin
      simp only [Bool.and_eq_true,beq_iff_eq] at hcond
      have hue:c.P.underlying e=some (.int .u8):=by
       have hu8:=hcond.1
       unfold zzp at hu8
       split at hu8
       · assumption
       · cases hu8
      have hy':=za h.tmpT hy
      simp only [zm] at hx
      split at hx
      · rename_i dst' y0 hdat
        have hyd:VRD S y0 (a.eval y):=hy'.data hdat
        have ec:ev ρ (.c (.str []))=.d (.str []):=rfl
        rw [ec] at hx
        cases y0 with
        | str l =>
         simp only [zbc,zu9,if_true,true_and] at hx
         split at hx
         case isFalse=>cases hx
         rename_i hbd
         cases hx
         obtain ⟨bs,hb,rfl⟩:=VRD.str_inv hyd
         have hbd:bs.size≤mostBytes:=by
          have e:bs.data.toList.length=bs.size:=Array.length_toList
          rw [← e];exact hbd
         obtain ⟨cur,cap,w',hcap,hrun,hh1,hh2,hh3,hv,g1,g2,g3⟩:=zu3 (P:=c.P) (w:=w) (e:=e) bs
         have hr:(execOp a.eval ⟨some dst',.convert s d y,ty,pos,after,guard⟩).run c.P w=.ok (.value (.slice (some ⟨w.heap.size,0,none⟩) bs.size cap)) w':=by
          simp only [execOp,hb,Go.convert,Sem.run_bind,run_underlying hs,run_underlying hdd,run_underlying hue,Result.andThen_ok,hrun,Sem.run_pure]
         obtain ⟨fr,hh3,hfr,hcs,hcm⟩:=hh3
         have hcm:=hcm (by
          have h63:maxLen=9223372036854775807:=rfl
          have:=hbd
          unfold mostBytes at this
          omega)
         have hgr:=h.grow (w':=w') (cur:=cur) (e:=e) (fr:=fr) (vis:=bs.data.toList.map fun b=>Value.int .u8 b.toNat) hh1 hh2 hh3 hv g1 g2 g3
         have hbl:(bs.data.toList.map fun b=>Value.int .u8 b.toNat).length=bs.size:=by rw [List.length_map];exact Array.length_toList
         have hlen:(u8s bs.data.toList).length=bs.size:=by rw [u8s,List.length_map];exact Array.length_toList
         have htk:cur.toList.take ((u8s bs.data.toList).length * 1)=bs.data.toList.map fun b=>Value.int .u8 b.toNat:=by
          rw [hlen,Nat.mul_one]
          apply List.ext_getElem?
          intro j
          by_cases hj:j<bs.size
          · rw [List.getElem?_take_of_lt hj]
            have:=hv j _ (List.getElem?_eq_getElem (by rw [hbl];exact hj))
            rw [Array.getElem?_toList,this,List.getElem?_eq_getElem (by rw [hbl];exact hj)]
          · rw [List.getElem?_eq_none (by rw [List.length_take];omega),List.getElem?_eq_none (by rw [hbl];omega)]
         refine ⟨_,w',zhp S w.heap.size (bs.data.toList.map fun b=>Value.int .u8 b.toNat),m,upd ow dst' (some w.heap.size),.inl hr,?_,hgr.2,zah.refl _⟩
         rw [← hm]
         rw [← hlen]
         refine hgr.1.putOwn (R:=some w.heap.size) ⟨cap,cur,e,rfl,⟨fr,hh3,hfr⟩,by rw [hlen];exact hcap,hcm,by rw [hcs,Nat.mul_one],?_,?_,?_,?_⟩ ?_ (hd dst' rfl)
         · rw [List.all_eq_true]
           intro x hx
           obtain ⟨b,_,rfl⟩:=List.mem_map.1 hx
           rfl
         · rw [htk]
           have hfl:zag (u8s bs.data.toList)=u8s bs.data.toList:=by
            generalize bs.data.toList=l
            induction l with
            | nil=>rfl
            | cons b l ih=>simp only [u8s,List.map_cons,z7] at ih ⊢;rw [ih];rfl
           rw [hfl]
           refine ⟨by simp [u8s],fun j x v hx hv=>?_⟩
           rw [u8s,List.getElem?_map] at hx
           rw [List.getElem?_map] at hv
           cases hq:bs.data.toList[j]? with
           | none=>simp [hq] at hx
           | some q =>
            simp [hq] at hx hv
            subst hx;subst hv
            exact VRD.int _ _
         · intro j u hj
           rw [htk] at hj
           rw [zeh];exact hj
         · intro off sp ho
           rw [hlen,Nat.mul_one] at ho
           by_cases hsp:sp=none
           · subst hsp
             rw [zeh,List.getElem?_eq_none (by rw [hbl];exact ho)]
           · cases hS:zhp S w.heap.size (bs.data.toList.map fun b=>Value.int .u8 b.toNat) ⟨w.heap.size,off,sp⟩ with
             | none=>rfl
             | some q =>
              simp [zhp,hsp] at hS
              have:=h.h.S_spot hS
              exact absurd this hsp
         · intro g hg
           cases hg
           refine ⟨h.bas,h.g_none,fun k s cs hl=>absurd (h.h.block_lt hl) (by omega),fun j sz' es' hj hij e=>?_⟩
           have hown:=h.own hij
           rw [e] at hown
           have:=hown.lt
           omega
        | _=>simp [zbc,zu9] at hx
      · cases hx
    by_cases hmk:aop.makes=true
    · unfold zmj at hc
      (repeat' split at hc)<;>(try (cases hc;done))<;>(try (cases hc;cases hmk;done))
      rename_i e hs hdd hcond hin
      cases hc
      simp only [Bool.and_eq_true,beq_iff_eq] at hcond
      have hue:c.P.underlying e=some (.int .u8):=by
       have hu8:=hcond.1
       unfold zzp at hu8
       split at hu8
       · assumption
       · cases hu8
      simp only [zm,Option.map_eq_some_iff] at hx
      obtain ⟨x,hx,rfl⟩:=hx
      have hy':=za h.tmpT hy
      simp only [evP] at hx
      split at hx
      · rename_i l e0
        cases hx
        rw [e0] at hy'
        obtain ⟨bs,hb,rfl⟩:=VRD.str_inv hy'
        obtain ⟨cur,cap,w',hcap,hrun,hh1,hh2,hh3,hv,g1,g2,g3⟩:=zu3 (P:=c.P) (w:=w) (e:=e) bs
        have hr:(execOp a.eval ⟨dst,.convert s d y,ty,pos,after,guard⟩).run c.P w=.ok (.value (.slice (some ⟨w.heap.size,0,none⟩) bs.size cap)) w':=by
         simp only [execOp,hb,Go.convert,Sem.run_bind,run_underlying hs,run_underlying hdd,run_underlying hue,Result.andThen_ok,hrun,Sem.run_pure]
        obtain ⟨fr,hh3,_⟩:=hh3
        have hgr:=h.grow (w':=w') (cur:=cur) (e:=e) (fr:=fr) (vis:=bs.data.toList.map fun b=>Value.int .u8 b.toNat) hh1 hh2 hh3 hv g1 g2 g3
        refine ⟨_,w',_,m,ow,.inl hr,?_,hgr.2,zah.refl _⟩
        rw [← hm]
        refine hgr.1.put (x:=.d (.list (bs.data.toList.map fun b=>D.int .u8 b.toNat))) ?_ (fun _ _ e=>by cases e) hd
        have hfl:zag (bs.data.toList.map fun b=>D.int .u8 b.toNat)=bs.data.toList.map fun b=>D.int .u8 b.toNat:=by
         generalize bs.data.toList=l
         induction l with
         | nil=>rfl
         | cons b l ih=>simp only [List.map_cons,z7,ih];rfl
        have hlen:(bs.data.toList.map fun b=>D.int .u8 b.toNat).length=bs.size:=by rw [List.length_map];exact Array.length_toList
        show VRD _ _ _
        rw [← hlen]
        refine VRD.list_mk (sz:=1) (c:=bs.data.toList.map fun b=>Value.int .u8 b.toNat) rfl (by rw [hlen];exact hcap) ?_ ?_ ?_
        · rw [List.all_eq_true]
          intro x hx
          obtain ⟨b,_,rfl⟩:=List.mem_map.1 hx
          rfl
        · rw [hfl]
          refine ⟨by simp,fun j x v hx hv=>?_⟩
          rw [List.getElem?_map] at hx hv
          cases hq:bs.data.toList[j]? with
          | none=>simp [hq] at hx
          | some q =>
           simp [hq] at hx hv
           subst hx;subst hv
           exact VRD.int _ _
        · intro j u hj
          simp only [Nat.zero_add]
          rw [zeh];exact hj
      · cases hx
    · refine dflt aop rfl (by simpa using hmk) ?_
      unfold zmj at hc
      (repeat' split at hc)<;>(try (cases hc;done))<;>(cases hc;first|exact absurd rfl hown|simpa [zm] using hx)
  · cases hc
 | unOp op t y =>
  cases op with
  | not =>
   simp only [cOp,Option.map_eq_some_iff] at hc
   obtain ⟨y',hy,rfl⟩:=hc
   exact dflt _ rfl rfl (by simpa [zm] using hx)
  | neg =>
   simp only [cOp,Option.map_eq_some_iff] at hc
   obtain ⟨y',hy,rfl⟩:=hc
   exact dflt _ rfl rfl (by simpa [zm] using hx)
  | xor =>
   simp only [cOp] at hc
   split at hc
   · cases hc
     exact dflt _ rfl rfl (by simpa [zm] using hx)
   · cases hc
  | plus=>simp [cOp] at hc
 | makeFunc fn first caps =>
  cases fn with
  | func f =>
   simp only [cOp] at hc
   split at hc
   · simp only [Option.map_eq_some_iff] at hc
     obtain ⟨cs,hcs,rfl⟩:=hc
     exact dflt _ rfl rfl (by simpa [zm] using hx)
   · cases hc
  | _=>simp [cOp] at hc
 | binOp op t p q u =>
  simp only [cOp] at hc
  split at hc
  · refine dflt aop rfl ?_ ?_
    · unfold zzq at hc
      (repeat' split at hc)<;>first|(cases hc;done)|(cases hc;rfl)
    · unfold zzq at hc
      (repeat' split at hc)<;>first|(cases hc;done)|(cases hc;simpa [zm] using hx)
  · cases hc
 | _ =>
  simp only [cOp] at hc
  first
  | (cases hc;done)
  | (refine dflt aop rfl ?_ ?_
     · (repeat' split at hc)<;>first|(cases hc;done)|(cases hc;rfl)|(simp only [Option.map_eq_some_iff] at hc;obtain ⟨_,_,rfl⟩:=hc;rfl)
     · (repeat' split at hc)<;>first|(cases hc;done)|(cases hc;simpa [zm] using hx)|(simp only [Option.map_eq_some_iff] at hc;obtain ⟨_,_,rfl⟩:=hc;simpa [zm] using hx))
end
end Go.E2
