/-
 Every operation that only yields a value: the case distinction.
 Conditions: none;laws.
-/
import Derived.Test.YtlejjdbmmdghmaaEO1
namespace Go.E2
section
variable {P:Program} {S:Stb} {ms:List (Nat→Nat)} {lv:List Hp} {G:Gh} {ρ:Env} {a:Act} {w:World}
def AOp.makes:AOp→Bool
 | .mkslice ..=>true
 | .s2b _=>true
 | .sl0 ..=>true
 | .sl3L ..=>true
 | .copy ..=>true
 | .appG ..=>true
 | .appZ ..=>true
 | .mkG ..=>true
 | _=>false
theorem zcs {t:TypeId} {n:Nat} (h:tsz P t=some n):∃ i,P.info? t=some i∧i.size=n:=by
 unfold tsz at h
 cases hi:P.info? t with
 | none=>simp [hi] at h
 | some i=>simp [hi] at h;exact ⟨i,rfl,h⟩
theorem z6 {t:TypeId} {n:Nat} (h:tsz P t=some n):(sizeOf t).run P w=.ok n w:=by
 obtain ⟨i,hi,rfl⟩:=zcs h
 simp [sizeOf,typeInfo,hi]
theorem zbs {t:TypeId} {z:List D} (h:zdo P t=some z):∃ zv:Value,(∀ w,(zeroValue t).run P w=.ok zv w)∧zz S z zv.cells.toList∧z.all D.one=true∧∃ i,P.info? t=some i∧i.zero=some zv:=by
 unfold zdo at h
 cases hi:P.info? t with
 | none=>simp [hi] at h
 | some i =>
  simp only [hi] at h
  cases hz:i.zero with
  | none=>simp [hz] at h
  | some z0 =>
   simp only [hz] at h
   have:=zje (S:=S) h
   exact ⟨z0,fun w=>by simp [zeroValue,typeInfo,hi,hz],this.1,this.2,i,rfl,hz⟩
theorem zps {b o:Nat} {cs:List D} {c:List Value} (hc:zz S cs c) (ho:cs.all D.one=true) (hS:∀ (j:Nat) (u:Value),c[j]?=some u→S ⟨b,o+j,none⟩=some u) :
 VR S lv ms (.cptr cs) (.pointer (some ⟨b,o,none⟩)):=⟨⟨b,o,none⟩,c,rfl,rfl,hc,ho,hS⟩
theorem zcd {l:List D} {p:D→Bool} (h:l.all p=true) (n:Nat):(l.drop n).all p=true:=by
 rw [List.all_eq_true] at h ⊢
 exact fun y hy=>h y (List.mem_of_mem_drop hy)
theorem zdv {l:List D} {p:D→Bool} (h:l.all p=true) (n:Nat):(l.take n).all p=true:=by
 rw [List.all_eq_true] at h ⊢
 exact fun y hy=>h y (List.mem_of_mem_take hy)
theorem zi6 {ad:Addr} (h:ad.spot=none):ad=⟨ad.block,ad.off,none⟩:=by cases ad;simp at h;subst h;rfl
theorem zcy {x:AV} {v:Value} (hx:VR S lv ms x v) {y:D} (hy:x.data=some y) :
 (y=.nilS→v=.slice none 0 0)∧∀ es,y=.list es→(es=[]∧∃ a:Option Addr,v=.slice a 0 0)∨∃ (b o cap:Nat) (c:List Value),v=.slice (some ⟨b,o,none⟩) es.length cap∧es.length≤cap∧zz S (zag es) c ∧
   (∀ (j:Nat) (u:Value),c[j]?=some u→S ⟨b,o+j,none⟩=some u):=by
 have hd:=hx.data hy
 refine ⟨fun e=>by subst e;cases hd;rfl,fun es e=>?_⟩
 subst e
 rcases hd.list_inv with h|⟨ad,cap,c,rfl,hsp,hcap,_,hs,hS⟩
 · exact .inl ⟨h.1,none,h.2⟩
 · rcases Nat.eq_zero_or_pos cap with h0|h0
   · have he:es.length=0:=by omega
     exact .inl ⟨List.eq_nil_of_length_eq_zero he,some ad,by rw [he,h0]⟩
   · exact .inr ⟨ad.block,ad.off,cap,c,by rw [← zi6 (hsp h0)],hcap,hs,hS⟩
theorem zhb {x:AV} {v:Value} (hx:VR S lv ms x v) {b off len cap:Nat} (hy:x.data=some (.gs b off len cap)):v=.slice (some ⟨b,off,none⟩) len cap∧len≤cap:=by
 have hd:=hx.data hy
 cases hd
 rename_i h
 exact ⟨rfl,h⟩
theorem zf7 {b off:Nat} {v:Value} (hx:VRD S (.gp b off) v):v=.pointer (some ⟨b,off,none⟩):=by cases hx;rfl
theorem zx2 {t e:TypeId} {es:List D} {n0:Nat} {k:IntKind} {n:Int} {b o cap:Nat} {c:List Value} {x:D} (ht:P.underlying t=some (.slice e)) (hsz:tsz P e=some n0)
 (hes:es.all (zb n0)=true) (hc:zz S (zag es) c) (hS:∀ (j:Nat) (u:Value),c[j]?=some u→S ⟨b,o+j,none⟩=some u) (hn:0≤n) (hx:es[n.toNat]?=some x) :
 ∃ v,(Instr.indexAt t (.slice (some ⟨b,o,none⟩) es.length cap) (.int k n)).run P w=.ok v w∧VR S lv ms (.cptr x.cells) v:=by
 have hlt:=(List.getElem?_eq_some_iff.1 hx).1
 have hcell:=zqj hes hx
 refine ⟨.pointer (some ⟨b,o+n.toNat * n0,none⟩),?_,?_⟩
 · have h1:n<(es.length:Int):=by omega
   simp [Instr.indexAt,asIntOf,run_underlying ht,hn,h1,z6 hsz,zao]
 · rw [hcell]
   refine zps (c:=(c.drop (n.toNat * n0)).take n0) ((hc.drop _).take _) (zdv (zcd (zfn hes) _) _) fun j u hj=>?_
   rw [List.getElem?_take] at hj
   split at hj
   · rw [List.getElem?_drop] at hj
     have:=hS _ _ hj
     rw [Nat.add_assoc];exact this
   · cases hj
theorem z02 (ht:zfc S lv ms ρ a) (caps:Array Operand) {cs:List AO} (hcs:cOs caps.toList=some cs) {ps:List (Nat×Nat×Nat)}
 (hps:(cs.mapM fun o=>zpv (ev ρ o))=some ps) :
 (caps.map a.eval).size=ps.length∧∀ (j:Nat) (p:Nat×Nat×Nat) (u:Value),ps[j]?=some p→(caps.map a.eval)[j]?=some u→zep lv ms p.1 p.2.1 p.2.2 0 u:=by
 have gen:∀ (l:List Operand) (cs:List AO) (ps:List (Nat×Nat×Nat)),cOs l=some cs→(cs.mapM fun o=>zpv (ev ρ o))=some ps →
  (l.map a.eval).length=ps.length∧∀ (j:Nat) (p:Nat×Nat×Nat) (u:Value),ps[j]?=some p→(l.map a.eval)[j]?=some u→zep lv ms p.1 p.2.1 p.2.2 0 u:=by
  intro l
  induction l with
  | nil =>
   intro cs ps h1 h2
   simp [cOs] at h1
   subst h1
   simp at h2
   subst h2
   exact ⟨rfl,fun j p u h=>by simp at h⟩
  | cons o l ih =>
   intro cs ps h1 h2
   simp only [cOs] at h1
   split at h1
   · rename_i x xs hx hxs
     cases h1
     rw [List.mapM_cons] at h2
     simp only [Option.bind_eq_bind,Option.bind_eq_some_iff] at h2
     obtain ⟨q,hq,qs,hqs,h3⟩:=h2
     simp at h3
     subst h3
     obtain ⟨hl,hp⟩:=ih xs qs hxs hqs
     have hv:=za ht hx
     refine ⟨by simp [← hl],fun j p u hj hu=>?_⟩
     cases j with
     | zero =>
      simp at hj hu
      subst hj;subst hu
      unfold zpv at hq
      split at hq
      · rename_i k s g e
        rw [e] at hv
        simp at hq
        subst hq
        exact hv
      · cases hq
     | succ j=>exact hp j p u (by simpa using hj) (by simpa using hu)
   · cases h1
 have:=gen caps.toList cs ps hcs hps
 refine ⟨by simpa using this.1,fun j p u hj hu=>this.2 j p u hj (by simpa using hu)⟩
theorem zn3:∀ (fs:List Field),(fs.all fun (f:Field)=>(P.info? f.type).isSome)=true →
 ∃ places,fs.mapM (fun (f:Field)=>(P.info? f.type).map fun i=>(f.offset,i.size))=some places∧∀ i,places[i]?=zcu P fs.toArray i
 | [],_=>⟨[],rfl,fun i=>by simp [zcu]⟩
 | f::fs,h=>by
   simp only [List.all_cons,Bool.and_eq_true] at h
   obtain ⟨places,hp,hi⟩:=zn3 fs h.2
   obtain ⟨inf,hinf⟩:=Option.isSome_iff_exists.1 h.1
   refine ⟨(f.offset,inf.size)::places,by simp [List.mapM_cons,hinf,hp],fun i=>?_⟩
   cases i with
   | zero=>simp [zcu,tsz,hinf]
   | succ i=>simpa [zcu] using hi i
theorem zq7 (ht:zfc S lv ms ρ a) {place:Nat→Option (Nat×Nat)}:∀ (ps:List (Nat×Operand)) (ps':List (Nat×Nat×AO)) (vs:List D),zj8 place ps=some ps'→zx ρ (ps'.map (·.2.2))=some vs →
 (ps.map fun p=>(p.1,a.eval p.2)).length=((ps'.zip vs).map fun (p,v)=>(p.1,p.2.1,v)).length ∧
 ∀ (j:Nat) (p:Nat×Value) (q:Nat×Nat×D),(ps.map fun p=>(p.1,a.eval p.2))[j]?=some p→((ps'.zip vs).map fun (p,v)=>(p.1,p.2.1,v))[j]?=some q→place p.1=some (q.1,q.2.1)∧VRD S q.2.2 p.2
 | [],ps',vs,h,hd=>by
   simp [zj8] at h
   subst h
   exact ⟨by simp,fun j p q hj=>by simp at hj⟩
 | (i,o)::ps,ps',vs,h,hd=>by
   simp only [zj8] at h
   split at h
   · rename_i off size x xs hpl hx hxs
     cases h
     simp only [List.map_cons,zx] at hd
     split at hd
     · rename_i y ys hy hys
       cases hd
       obtain ⟨hl,hp⟩:=zq7 ht ps xs ys hxs hys
       refine ⟨by simp at hl ⊢;exact hl,fun j p q hj hq=>?_⟩
       cases j with
       | zero =>
        simp at hj hq
        subst hj;subst hq
        exact ⟨hpl,(za ht hx).data hy⟩
       | succ j=>exact hp j p q (by simpa using hj) (by simpa using hq)
     · cases hd
   · cases h
theorem zq8 (ht:zfc S lv ms ρ a) {t:TypeId} {ps:Array (Nat×Operand)} {ps':List (Nat×Nat×AO)} {z:List D} {place:Nat→Option (Nat×Nat)} (hz:zdo P t=some z)
 (hps:zj8 place ps.toList=some ps') (hb:∀ (zv:Value) (cells:Array Value),(∃ i,P.info? t=some i∧i.zero=some zv)→Instr.fill place zv.cells (ps.map fun p=>(p.1,a.eval p.2)).toList=some cells→P.built t (ps.map fun p=>(p.1,a.eval p.2)).toList=some cells)
 {x:AV} (hx:evP ρ lv G (.build z ps')=some x):∃ v,(Instr.build t (ps.map fun (i,y)=>(i,a.eval y))).run P w=.ok v w∧∃ y,x=.d y∧VRD S y v:=by
 obtain ⟨zv,hzr,hzs,hzo,hzi⟩:=zbs (S:=S) hz
 simp only [evP] at hx
 split at hx
 · rename_i vs hvs
   simp only [Option.bind_eq_some_iff] at hx
   obtain ⟨cs,hcs,hx⟩:=hx
   split at hx
   · rename_i hone
     cases hx
     obtain ⟨hl,hp⟩:=zq7 ht ps.toList ps' vs hps hvs
     obtain ⟨cells,hf,hv⟩:=zmc (S:=S) place (ps.toList.map fun p=>(p.1,a.eval p.2)) _ z zv.cells cs hl hp hzs hcs
     have e:(ps.map fun p=>(p.1,a.eval p.2)).toList=ps.toList.map fun p=>(p.1,a.eval p.2):=by simp
     refine ⟨.agg cells,run_build w t _ cells (hb zv cells hzi (by rw [e];exact hf)),_,rfl,?_⟩
     have:=VRD.agg_mk hv hone
     simpa using this
   · cases hx
 · cases hx
theorem zn4:∀ {es:List D} {l:List UInt8},zbh es=some l→zag es=es
 | [],l,h=>rfl
 | x::es,l,h=>by
   cases x with
   | int k n =>
    cases k<;>simp [zbh] at h
    split at h
    · rename_i l' hl
      rw [z7,zn4 hl];rfl
    · cases h
   | _=>simp [zbh] at h
theorem zgi:∀ {es:List D} {l:List UInt8} {c:List Value},zbh es=some l→zz S es c→∃ ns:List Int,c=ns.map (Value.int .u8)∧l=ns.map fun n=>UInt8.ofNat n.toNat
 | [],l,c,h,hc=>by simp [zbh] at h;subst h;exact ⟨[],hc.nil_inv,rfl⟩
 | x::es,l,c,h,hc=>by
   cases x with
   | int k n =>
    cases k<;>simp [zbh] at h
    split at h
    · rename_i l' hl
      cases h
      obtain ⟨v,vs,rfl,hv,hvs⟩:=hc.cons_inv
      obtain ⟨ns,rfl,rfl⟩:=zgi hl hvs
      exact ⟨n::ns,by simp [hv.int_inv],rfl⟩
    · cases h
   | _=>simp [zbh] at h
theorem zpt {b:Addr} {n cap:Nat} {ns:List Int} (hl:(loadCells b n).run P w=.ok (ns.map (Value.int .u8)).toArray w) :
 (Conv.bytesToString (.slice (some b) n cap)).run P w=.ok (.string ⟨(ns.map fun n=>UInt8.ofNat n.toNat).toArray⟩) w:=by
 have gen:∀ (ns:List Int) (s:ByteArray),List.foldl (fun (b:ByteArray) (a:Int)=>b.push (UInt8.ofNat a.toNat)) s ns=⟨s.data++(ns.map fun n=>UInt8.ofNat n.toNat).toArray⟩:=by
  intro ns
  induction ns with
  | nil=>intro s;simp
  | cons n ns ih =>
   intro s
   simp only [List.foldl_cons,ih,List.map_cons]
   congr 1
   apply Array.ext'
   simp
 have g0:=gen ns ByteArray.empty
 simp only [Conv.bytesToString,Sem.run_bind,hl,Result.andThen_ok]
 rw [← Array.forIn_toList]
 simp [g0]
theorem zdh {t:TypeId} {x:AO} {lo hi mx:Option Operand} {aop:AOp} (h:zvc P t x lo hi mx=some aop) :
 (P.underlying t=some .string∧mx=none∧∃ l r,zh5 lo=some l∧zh5 hi=some r∧aop=.slS x l r) ∨
 (∃ e sz,P.underlying t=some (.slice e)∧tsz P e=some sz∧((mx=none∧∃ l r,zh5 lo=some l∧zh5 hi=some r∧aop=.sl sz x l r) ∨
   (lo=none∧zs2 hi=true∧zs2 mx=true∧aop=.sl0 sz x)∨(∃ hi' mx' h' m',lo=none∧hi=some hi'∧mx=some mx'∧cO hi'=some h'∧cO mx'=some m'∧aop=.sl3L sz x h' m')∨∃ l hi' mx' h' m',zh5 lo=some l∧hi=some hi'∧mx=some mx'∧cO hi'=some h'∧cO mx'=some m'∧aop=.sl3 sz x l h' m')):=by
 unfold zvc at h
 cases hu:P.underlying t with
 | none=>simp [hu] at h
 | some d =>
  cases d<;>simp only [hu] at h<;>(try (cases h;done))
  case string =>
   cases mx with
   | some m=>simp at h
   | none =>
    cases hl:zh5 lo<;>cases hr:zh5 hi<;>simp [hl,hr] at h
    exact .inl ⟨rfl,rfl,_,_,rfl,rfl,h.symm⟩
  case slice e =>
   cases hs:tsz P e with
   | none=>simp [hs] at h
   | some sz =>
    simp only [hs] at h
    cases mx with
    | some m =>
     simp only at h
     split at h
     · rename_i hc
       simp at hc
       cases h
       exact .inr ⟨e,sz,rfl,hs,.inr (.inl ⟨hc.1.1,hc.1.2,hc.2,rfl⟩)⟩
     · cases hl:zh5 lo with
       | none=>simp [hl] at h
       | some l =>
        cases hi with
        | none=>simp [hl] at h
        | some hi =>
         cases hh:cO hi with
         | none=>simp [hl,hh] at h
         | some h' =>
          cases hm:cO m with
          | none=>simp [hl,hh,hm] at h
          | some m' =>
           cases l with
           | none =>
            simp [hl,hh,hm] at h
            have hlo:lo=none:=by
             cases lo with
             | none=>rfl
             | some o=>simp only [zh5] at hl;cases ho:cO o<;>simp [ho] at hl
            exact .inr ⟨e,sz,rfl,hs,.inr (.inr (.inl ⟨hi,m,h',m',hlo,rfl,rfl,hh,hm,h.symm⟩))⟩
           | some l =>
            simp [hl,hh,hm] at h
            exact .inr ⟨e,sz,rfl,hs,.inr (.inr (.inr ⟨some l,hi,m,h',m',rfl,rfl,rfl,hh,hm,h.symm⟩))⟩
    | none =>
     cases hl:zh5 lo<;>cases hr:zh5 hi<;>simp [hl,hr] at h
     exact .inr ⟨e,sz,rfl,hs,.inl ⟨rfl,_,_,rfl,rfl,h.symm⟩⟩
theorem ze9 {c:Ctx} {dst:Option Nat} {as:List Operand} {ts:List TypeId} {ty:TypeId} {aop:AOp} (h:zck c dst { callee:=.builtin .append,args:=⟨as⟩,argTypes:=⟨ts⟩ } ty=some aop) :
 ∃ x y t u x' y' e sz b z,as=[x,y]∧ts=[t,u]∧cO x=some x'∧cO y=some y'∧zea c.P t=some e∧tsz c.P e=some sz∧tby c.P e=some b∧(zdo c.P e=some z∧0<sz∧0<b∧z.length=sz) ∧
   (((zea c.P u=some e∨c.P.underlying u=some .string)∧aop=if zkz c dst then .appG sz b z x' y' else .append sz b x' y')∨∃ k,c.P.underlying u=some (.int k)∧(aop=.appZ sz b z x' y'∨(aop=.append 0 0 x' y'∧sz=1∧b=1∧z=[.int .u8 0]))):=by
 simp only [zck] at h
 split at h
 · rename_i x y t u
   split at h
   · rename_i x' y' e e2 hx hy he he'
     split at h
     · rename_i sz b z hs hb hz
       split at h
       · rename_i hc
         cases h
         obtain ⟨rfl,h1,h2,h3⟩:=hc
         exact ⟨x,y,t,u,x',y',e,sz,b,z,rfl,rfl,hx,hy,he,hs,hb,⟨hz,h1,h2,h3⟩,.inl ⟨.inl he',rfl⟩⟩
       · cases h
     · cases h
   · rename_i x' y' e hx hy he he'
     split at h
     · rename_i sz b z k hs hb hz hu
       split at h
       · rename_i hc
         have h:=Option.some.inj h
         refine ⟨x,y,t,u,x',y',e,sz,b,z,rfl,rfl,hx,hy,he,hs,hb,⟨hz,hc⟩,.inr ⟨k,hu,?_⟩⟩
         by_cases ho:(zkz c dst && z74 sz b z)=true
         · rw [if_pos ho] at h
           exact .inr ⟨h.symm,z05 (Bool.and_eq_true _ _▸ho).2⟩
         · rw [if_neg ho] at h
           exact .inl h.symm
       · cases h
     · rename_i sz b z hs hb hz hu
       split at h
       · rename_i hc
         cases h
         exact ⟨x,y,t,u,x',y',e,sz,b,z,rfl,rfl,hx,hy,he,hs,hb,⟨hz,hc⟩,.inl ⟨.inr hu,rfl⟩⟩
       · cases h
     · cases h
   · cases h
 · cases h
theorem zen {c:Ctx} (h:zcw S ms lv G w) (ht:zfc S lv ms ρ a) {o:Oper} {aop:AOp} (hc:cOp c o.dst o.type o.op=some aop)
 (hn:aop.makes=false) {x:AV} (hx:evP ρ lv G aop=some x):zan c.P S lv ms a w o x:=by
 obtain ⟨dst,op,ty,pos,after,guard⟩:=o
 cases op with
 | move y =>
  simp only [cOp,Option.map_eq_some_iff] at hc
  obtain ⟨y',hy,rfl⟩:=hc
  simp [evP] at hx
  subst hx
  exact ⟨a.eval y,by simp [execOp],(za ht hy).cp,zbu⟩
 | assign y =>
  simp only [cOp,Option.map_eq_some_iff] at hc
  obtain ⟨y',hy,rfl⟩:=hc
  simp [evP] at hx
  subst hx
  exact ⟨a.eval y,by simp [execOp],(za ht hy).cp,zbu⟩
 | pick p q r =>
  simp only [cOp] at hc
  split at hc
  · rename_i p' q' r' hp hq hr
    cases hc
    have hp':=za ht hp
    simp only [evP] at hx
    split at hx
    · rename_i t e
      rw [e] at hp'
      have hb:a.eval p=.bool t:=VRD.bool_inv hp'
      cases hx
      refine ⟨if t then a.eval q else a.eval r,by simp [execOp,hb,asBool],?_,?_⟩
      · cases t
        · exact (za ht hr).cp
        · exact (za ht hq).cp
      · cases t<;>exact zbu
    · cases hx
  · cases hc
 | load t y =>
  simp only [cOp] at hc
  split at hc
  · rename_i g n y' hg hn' hy
    split at hc
    · rename_i hgn
      cases hc
      have hy':=za ht hy
      simp only [evP] at hx
      split at hx
      · rename_i k s g0 off e
        rw [e] at hy'
        split at hx
        · split at hx
          · rename_i cs hcs
            simp only [Option.map_eq_some_iff] at hx
            obtain ⟨z,hz,rfl⟩:=hx
            obtain ⟨b,hb,_,c0,e0,hc0,hvc,hone⟩:=zj1 h hy' hcs
            obtain ⟨v,hv,hr⟩:=zd7 (w:=w) (b:=b) (o:=off) hg hn' hgn (hvc.drop off) (zcd hone off) (zc8 hc0) hz
            exact zan.d (by simp [execOp,Instr.loadAt,hb,Instr.sureAddr,hv]) hr
          · cases hx
        · cases hx
      · rename_i cs e
        rw [e] at hy'
        obtain ⟨ad,c0,hb,hsp,hvc,hone,hS⟩:=hy'
        simp only [Option.map_eq_some_iff] at hx
        obtain ⟨z,hz,rfl⟩:=hx
        rw [zi6 hsp] at hb
        obtain ⟨v,hv,hr⟩:=zd7 (w:=w) (b:=ad.block) (o:=ad.off) hg hn' hgn hvc hone (fun j u hj=>h.sub _ _ (hS j u hj)) hz
        exact zan.d (by simp [execOp,Instr.loadAt,hb,Instr.sureAddr,hv]) hr
      · rename_i b off e
        rw [e] at hy'
        have hb:=zf7 hy'
        split at hx
        · split at hx
          · rename_i cs hcs
            simp only [Option.map_eq_some_iff] at hx
            obtain ⟨z,hz,rfl⟩:=hx
            obtain ⟨c0,e0,hc0,hvc,hone⟩:=h.gbox hcs
            obtain ⟨v,hv,hr⟩:=zd7 (w:=w) (b:=b) (o:=off) hg hn' hgn (hvc.drop off) (zcd hone off) (zc8 hc0) hz
            exact zan.d (by simp [execOp,Instr.loadAt,hb,Instr.sureAddr,hv]) hr
          · cases hx
        · cases hx
      · cases hx
    · cases hc
  · cases hc
 | nilCheck y =>
  simp only [cOp,Option.map_eq_some_iff] at hc
  obtain ⟨y',hy,rfl⟩:=hc
  have hy':=za ht hy
  simp only [evP] at hx
  split at hx
  · rename_i k s g off e
    cases hx
    rw [e] at hy'
    obtain ⟨p,m,b,h1,h2,h3,h4⟩:=hy'
    exact ⟨_,by simp [execOp,h3],⟨p,m,b,h1,h2,rfl,h4⟩,fun _ _ e=>by cases e⟩
  · rename_i cs e
    cases hx
    rw [e] at hy'
    obtain ⟨ad,c0,hb,hr⟩:=hy'
    exact ⟨_,by simp [execOp,hb],⟨ad,c0,rfl,hr⟩,fun _ _ e=>by cases e⟩
  · rename_i f cs e
    cases hx
    rw [e] at hy'
    obtain ⟨cv,hb,hr⟩:=hy'
    exact ⟨_,by simp [execOp,hb],⟨cv,rfl,hr⟩,fun _ _ e=>by cases e⟩
  · rename_i f e
    cases hx
    rw [e] at hy'
    have hb:a.eval y=.func (.func f) #[] #[]:=VRD.fn_inv hy'
    exact zan.d (by simp [execOp,hb]) (VRD.fn f)
  · rename_i b off e
    cases hx
    rw [e] at hy'
    exact zan.d (v:=.pointer (some ⟨b,off,none⟩)) (by simp [execOp,zf7 hy']) (VRD.gp _ _)
  · rename_i f ds e
    cases hx
    rw [e] at hy'
    have hv:VRD S (.clo f ds) (a.eval y):=hy'
    refine ⟨a.eval y,?_,hv,fun _ _ e=>by cases e⟩
    obtain ⟨cv,e2,_⟩:=hv.clo_inv
    simp [execOp,e2]
  · rename_i l e
    cases hx
    rw [e] at hy'
    have hv:VRD S (.yld l) (a.eval y):=hy'
    refine ⟨a.eval y,?_,hv,fun _ _ e=>by cases e⟩
    have e2:a.eval y=.func (.yield l) #[] #[]:=by
     generalize a.eval y=u at hv
     cases hv;rfl
    simp [execOp,e2]
  · rename_i t b off e
    cases hx
    rw [e] at hy'
    have hv:VRD S (.ifc t b off) (a.eval y):=hy'
    refine ⟨a.eval y,?_,hv,fun _ _ e=>by cases e⟩
    have e2:a.eval y=.iface t (.pointer (some ⟨b,off,none⟩)):=by
     generalize a.eval y=u at hv
     cases hv;rfl
    simp [execOp,e2]
  · cases hx
 | binOp op t p q u =>
  simp only [cOp] at hc
  split at hc
  · rename_i p' q' hp hq
    have hp':=za ht hp
    have hq':=za ht hq
    have plain:∀ {op},evP ρ lv G (.bin op p' q')=some x→zan c.P S lv ms a w ⟨dst,.binOp op t p q u,ty,pos,after,guard⟩ x:=by
     intro op hx
     simp only [evP] at hx
     split at hx
     · rename_i m n e1 e2
       rw [e1] at hp'
       rw [e2] at hq'
       simp only [Option.map_eq_some_iff] at hx
       obtain ⟨z,hz,rfl⟩:=hx
       obtain ⟨v,hv,hr⟩:=z5e (P:=c.P) (w:=w) (t:=t) hp' hq' hz p q
       exact zan.d (by simp only [execOp,Sem.run_bind,Sem.run_pure] at hv ⊢;rw [hv];rfl) hr
     · cases hx
    unfold zzq at hc
    split at hc
    · cases hc;exact plain hx
    · cases hc;exact plain hx
    · rename_i e hu
      have nilq:q'=.c .nilS→a.eval q=.slice none 0 0:=fun e1=>by
       rw [e1] at hq'
       exact VRD.nilS_inv hq'
      have isn:∀ {op neg},q'=.c .nilS→((op=.eql∧neg=false)∨(op=.neq∧neg=true))→evP ρ lv G (.isnil neg p')=some x→zan c.P S lv ms a w ⟨dst,.binOp op t p q u,ty,pos,after,guard⟩ x:=by
       intro op neg hq0 hop hx
       have hqv:=nilq hq0
       simp only [evP] at hx
       split at hx
       · rename_i e1
         cases hx
         have hpv:=(zcy hp' e1).1 rfl
         have:=zi4 (P:=c.P) (w:=w) hu hop none 0 0 p q
         refine zan.d (v:=.bool (!neg)) ?_ (VRD.bool _)
         simp only [execOp,Sem.run_bind,Sem.run_pure,hpv,hqv] at this ⊢
         rw [this];cases neg<;>rfl
       · rename_i e0 es e1
         cases hx
         obtain ⟨b,off,cap,c0,hpv,_⟩:=((zcy hp' e1).2 (e0::es) rfl).resolve_left (fun h=>by cases h.1)
         have:=zi4 (P:=c.P) (w:=w) hu hop (some ⟨b,off,none⟩) (e0::es).length cap p q
         refine zan.d (v:=.bool neg) ?_ (VRD.bool _)
         simp only [execOp,Sem.run_bind,Sem.run_pure,hpv,hqv] at this ⊢
         rw [this];cases neg<;>rfl
       · rename_i b off len cap e1
         cases hx
         obtain ⟨hpv,_⟩:=zhb hp' e1
         have:=zi4 (P:=c.P) (w:=w) hu hop (some ⟨b,off,none⟩) len cap p q
         refine zan.d (v:=.bool neg) ?_ (VRD.bool _)
         simp only [execOp,Sem.run_bind,Sem.run_pure,hpv,hqv] at this ⊢
         rw [this];cases neg<;>rfl
       · cases hx
      split at hc
      · cases hc;exact isn rfl (.inl ⟨rfl,rfl⟩) hx
      · cases hc;exact isn rfl (.inr ⟨rfl,rfl⟩) hx
      · cases hc
    · rename_i hu
      have eb:∀ {op neg},((op=.eql∧neg=false)∨(op=.neq∧neg=true))→evP ρ lv G (.eqb neg p' q')=some x→zan c.P S lv ms a w ⟨dst,.binOp op t p q u,ty,pos,after,guard⟩ x:=by
       intro op neg hop hx
       simp only [evP] at hx
       split at hx
       · rename_i m n e1 e2
         rw [e1] at hp'
         rw [e2] at hq'
         cases hx
         have h1:a.eval p=.bool m:=VRD.bool_inv hp'
         have h2:a.eval q=.bool n:=VRD.bool_inv hq'
         have:=z5f (P:=c.P) (w:=w) (m:=m) (n:=n) hu hop p q
         refine zan.d ?_ (VRD.bool _)
         simp only [execOp,Sem.run_bind,Sem.run_pure,h1,h2] at this ⊢
         rw [this];rfl
       · cases hx
      split at hc
      · cases hc;exact eb (.inl ⟨rfl,rfl⟩) hx
      · cases hc;exact eb (.inr ⟨rfl,rfl⟩) hx
      · cases hc
    · rename_i fs hu
      split at hc
      · rename_i ks hks
        split at hc
        · cases hc
        · rename_i hg
          have es:∀ {op neg},((op=.eql∧neg=false)∨(op=.neq∧neg=true))→evP ρ lv G (.eqs neg ks p' q')=some x→zan c.P S lv ms a w ⟨dst,.binOp op t p q u,ty,pos,after,guard⟩ x:=by
           intro op neg hop hx
           simp only [evP] at hx
           split at hx
           · rename_i m n e1 e2
             rw [e1] at hp'
             rw [e2] at hq'
             simp only [Option.map_eq_some_iff] at hx
             obtain ⟨z,hz,rfl⟩:=hx
             have:=zzm (P:=c.P) (w:=w) hop hks (by simpa using hg) (by simp [zgu,hu,zky]) hp' hq' hz p q
             refine zan.d ?_ (VRD.bool _)
             simp only [execOp,Sem.run_bind,Sem.run_pure] at this ⊢
             rw [this];rfl
           · cases hx
          split at hc
          · cases hc;exact es (.inl ⟨rfl,rfl⟩) hx
          · cases hc;exact es (.inr ⟨rfl,rfl⟩) hx
          · cases hc
      · cases hc
    · rename_i n0 e0 hu
      split at hc
      · rename_i ks hks
        split at hc
        · cases hc
        · rename_i hg
          have es:∀ {op neg},((op=.eql∧neg=false)∨(op=.neq∧neg=true))→evP ρ lv G (.eqs neg ks p' q')=some x→zan c.P S lv ms a w ⟨dst,.binOp op t p q u,ty,pos,after,guard⟩ x:=by
           intro op neg hop hx
           simp only [evP] at hx
           split at hx
           · rename_i m n e1 e2
             rw [e1] at hp'
             rw [e2] at hq'
             simp only [Option.map_eq_some_iff] at hx
             obtain ⟨z,hz,rfl⟩:=hx
             have:=zzm (P:=c.P) (w:=w) hop hks (by simpa using hg) (by simp [zgu,hu,zky]) hp' hq' hz p q
             refine zan.d ?_ (VRD.bool _)
             simp only [execOp,Sem.run_bind,Sem.run_pure] at this ⊢
             rw [this];rfl
           · cases hx
          split at hc
          · cases hc;exact es (.inl ⟨rfl,rfl⟩) hx
          · cases hc;exact es (.inr ⟨rfl,rfl⟩) hx
          · cases hc
      · cases hc
    · cases hc
  · cases hc
 | unOp op t y =>
  cases op with
  | not =>
   simp only [cOp,Option.map_eq_some_iff] at hc
   obtain ⟨y',hy,rfl⟩:=hc
   have hy':=za ht hy
   simp only [evP] at hx
   split at hx
   · rename_i b e
     rw [e] at hy'
     cases hx
     have h1:a.eval y=.bool b:=VRD.bool_inv hy'
     exact zan.d (by simp [execOp,h1,znv]) (VRD.bool _)
   · cases hx
  | neg =>
   simp only [cOp,Option.map_eq_some_iff] at hc
   obtain ⟨y',hy,rfl⟩:=hc
   have hy':=za ht hy
   simp only [evP] at hx
   split at hx
   · rename_i k n e
     rw [e] at hy'
     cases hx
     have h1:a.eval y=.int k n:=VRD.int_inv hy'
     exact zan.d (by simp only [execOp,h1,Sem.run_bind,znx];rfl) (VRD.int _ _)
   · cases hx
  | xor =>
   simp only [cOp] at hc
   split at hc
   · rename_i k0 y' hu hy
     cases hc
     have hy':=za ht hy
     cases hb:ev ρ y' with
     | d b =>
      rw [hb] at hy'
      simp only [evP,hb] at hx
      change (zb6 .xor _ b).map AV.d=some x at hx
      cases b with
      | int k n =>
       have h1:a.eval y=.int k n:=VRD.int_inv hy'
       simp only [zb6] at hx
       split at hx
       · rename_i e
         subst e
         cases hx
         exact zan.d (by simp only [execOp,h1,Sem.run_bind,znw];rfl) (VRD.int _ _)
       · simp at hx
      | _=>simp [zb6] at hx
     | _=>simp only [evP,hb] at hx;cases hx
   · cases hc
  | plus=>simp [cOp] at hc
 | extract y i =>
  simp only [cOp,Option.map_eq_some_iff] at hc
  obtain ⟨y',hy,rfl⟩:=hc
  have hy':=za ht hy
  simp only [evP] at hx
  split at hx
  · rename_i vs e
    rw [e] at hy'
    obtain ⟨arr,h1,h2⟩:=hy'
    simp only [Option.map_eq_some_iff] at hx
    obtain ⟨z,hz,rfl⟩:=hx
    obtain ⟨v,hv,hr⟩:=h2.get hz
    have hv':arr[i]?=some v:=by simpa using hv
    exact zan.d (by simp [execOp,h1,Instr.extract,hv']) hr
  · cases hx
 | makeFunc fn first caps =>
  cases fn with
  | func f =>
   simp only [cOp] at hc
   split at hc
   · rename_i hfirst
     simp only [Option.map_eq_some_iff] at hc
     obtain ⟨cs,hcs,rfl⟩:=hc
     simp only [evP,Option.map_eq_some_iff] at hx
     obtain ⟨ps,hps,rfl⟩:=hx
     have hf:first=#[]:=by simpa using hfirst
     subst hf
     refine ⟨.func (.func f) #[] (caps.map a.eval),by simp [execOp,Instr.makeFunc],⟨_,rfl,?_⟩,fun _ _ e=>by cases e⟩
     exact z02 ht caps hcs hps
   · cases hc
  | _=>simp [cOp] at hc
 | fieldAddr t y i =>
  simp only [cOp] at hc
  split at hc
  · rename_i fs y' hu hy
    split at hc
    · rename_i f hf
      split at hc
      · rename_i n hn'
        split at hc
        · cases hc
        · rename_i hn0
          cases hc
          have hy':=za ht hy
          have hplace:∀ b o,(fieldPlace ⟨b,o,none⟩ f).run c.P w=.ok ⟨b,o+f.offset,none⟩ w:=fun b o=>by
           simp [fieldPlace,z6 hn',hn0,zao]
          simp only [evP] at hx
          split at hx
          · rename_i k s g off e
            cases hx
            rw [e] at hy'
            obtain ⟨p,m,b,h1,h2,h3,h4,h5⟩:=hy'
            exact ⟨.pointer (some ⟨b,off+f.offset,none⟩),by simp [execOp,Instr.fieldAt,run_underlying hu,hf,h3,Instr.sureAddr,hplace],⟨p,m,b,h1,h2,rfl,h4,h5⟩,fun _ _ e=>by cases e⟩
          · rename_i cs e
            cases hx
            rw [e] at hy'
            obtain ⟨ad,c0,hb,hsp,hvc,hone,hS⟩:=hy'
            rw [zi6 hsp] at hb
            refine ⟨.pointer (some ⟨ad.block,ad.off+f.offset,none⟩),by simp [execOp,Instr.fieldAt,run_underlying hu,hf,hb,Instr.sureAddr,hplace],?_,fun _ _ e=>by cases e⟩
            refine zps (hvc.drop _) (zcd hone _) fun j u hj=>?_
            rw [List.getElem?_drop] at hj
            have:=hS _ _ hj
            rw [Nat.add_assoc];exact this
          · rename_i b o e
            cases hx
            rw [e] at hy'
            exact zan.d (v:=.pointer (some ⟨b,o+f.offset,none⟩)) (by simp [execOp,Instr.fieldAt,run_underlying hu,hf,zf7 hy',Instr.sureAddr,hplace]) (VRD.gp _ _)
          · cases hx
      · cases hc
    · cases hc
  · cases hc
 | field t y i =>
  simp only [cOp] at hc
  split at hc
  · rename_i fs y' hu hy
    split at hc
    · rename_i f hf
      split at hc
      · rename_i n g hn' hg
        split at hc
        · cases hc
          have hy':=za ht hy
          simp only [evP] at hx
          split at hx
          · rename_i cs e
            rw [e] at hy'
            simp only [Option.map_eq_some_iff] at hx
            obtain ⟨z,hz,rfl⟩:=hx
            obtain ⟨vs,hb,hvs,hone⟩:=VRD.agg_inv hy'
            obtain ⟨v,hv,hr⟩:=zuv (P:=c.P) (w:=w) hg hn' hvs hone hz
            exact zan.d (by simp [execOp,Instr.field,run_underlying hu,hf,hb,asAgg,hv]) hr
          · cases hx
        · cases hc
      · cases hc
    · cases hc
  · cases hc
 | indexAddr t y i =>
  simp only [cOp] at hc
  split at hc
  · rename_i e y' i' hu hy hi
    split at hc
    · rename_i sz hsz
      cases hc
      have hy':=za ht hy
      have hi':=za ht hi
      simp only [evP] at hx
      split at hx
      · rename_i es k n e1 e2
        rw [e2] at hi'
        split at hx
        · rename_i hcond
          obtain ⟨hes,hn0⟩:=hcond
          simp only [Option.map_eq_some_iff] at hx
          obtain ⟨z,hz,rfl⟩:=hx
          obtain ⟨b,off,cap,c0,hpv,hcap,hvc,hS⟩:=((zcy hy' e1).2 es rfl).resolve_left (fun h=>by rw [h.1] at hz;simp at hz)
          obtain ⟨v,hv,hr⟩:=zx2 (P:=c.P) (w:=w) (lv:=lv) (ms:=ms) (k:=k) (cap:=cap) hu hsz hes hvc hS hn0 hz
          exact ⟨v,by simp only [execOp,hpv,VRD.int_inv hi',Sem.run_bind,hv];rfl,hr,fun _ _ e=>by cases e⟩
        · cases hx
      · rename_i b off len cap k n e1 e2
        rw [e2] at hi'
        split at hx
        · rename_i hcond
          cases hx
          obtain ⟨hpv,_⟩:=zhb hy' e1
          have h1:n<(len:Int):=hcond.2
          exact zan.d (v:=.pointer (some ⟨b,off+n.toNat * sz,none⟩)) (by simp [execOp,hpv,VRD.int_inv hi',Instr.indexAt,asIntOf,run_underlying hu,hcond.1,h1,z6 hsz,zao]) (VRD.gp _ _)
        · cases hx
      · cases hx
    · cases hc
  · rename_i len e y' i' hu hy hi
    split at hc
    · rename_i sz hsz
      cases hc
      have hy':=za ht hy
      have hi':=za ht hi
      simp only [evP] at hx
      split at hx
      · rename_i k s g off k2 n e1 e2
        rw [e2] at hi'
        rw [e1] at hy'
        split at hx
        · rename_i hcond
          cases hx
          obtain ⟨p,m,b,h1,h2,h3,h4,h5⟩:=hy'
          refine ⟨.pointer (some ⟨b,off+n.toNat * sz,none⟩),?_,⟨p,m,b,h1,h2,rfl,h4,h5⟩,fun _ _ e=>by cases e⟩
          simp [execOp,Instr.indexAt,h3,VRD.int_inv hi',asIntOf,run_underlying hu,Instr.sureAddr,hcond.1,hcond.2,z6 hsz,zao]
        · cases hx
      · rename_i cs k2 n e1 e2
        rw [e2] at hi'
        rw [e1] at hy'
        split at hx
        · rename_i hcond
          cases hx
          obtain ⟨ad,c0,hb,hsp,hvc,hone,hS⟩:=hy'
          rw [zi6 hsp] at hb
          refine ⟨.pointer (some ⟨ad.block,ad.off+n.toNat * sz,none⟩),?_,?_,fun _ _ e=>by cases e⟩
          · simp [execOp,Instr.indexAt,hb,VRD.int_inv hi',asIntOf,run_underlying hu,Instr.sureAddr,hcond.1,hcond.2,z6 hsz,zao]
          · refine zps (hvc.drop _) (zcd hone _) fun j u hj=>?_
            rw [List.getElem?_drop] at hj
            have:=hS _ _ hj
            rw [Nat.add_assoc];exact this
        · cases hx
      · rename_i b o k2 n e1 e2
        rw [e2] at hi'
        rw [e1] at hy'
        split at hx
        · rename_i hcond
          cases hx
          exact zan.d (v:=.pointer (some ⟨b,o+n.toNat * sz,none⟩)) (by simp [execOp,Instr.indexAt,zf7 hy',VRD.int_inv hi',asIntOf,run_underlying hu,Instr.sureAddr,hcond.1,hcond.2,z6 hsz,zao]) (VRD.gp _ _)
        · cases hx
      · cases hx
    · cases hc
  · cases hc
 | index t y i =>
  simp only [cOp] at hc
  split at hc
  · rename_i y' i' hu hy hi
    cases hc
    have hy':=za ht hy
    have hi':=za ht hi
    simp only [evP] at hx
    split at hx
    · rename_i s k n e1 e2
      rw [e1] at hy'
      rw [e2] at hi'
      split at hx
      · rename_i hn0
        simp only [Option.map_eq_some_iff] at hx
        obtain ⟨z,hz,rfl⟩:=hx
        obtain ⟨bs,hb,rfl⟩:=VRD.str_inv hy'
        have hz':bs[n.toNat]?=some z:=by
         rw [Array.getElem?_toList] at hz
         have hlt:=(Array.getElem?_eq_some_iff.1 hz).1
         have hv:=(Array.getElem?_eq_some_iff.1 hz).2
         have hlt':n.toNat<bs.size:=hlt
         rw [getElem?_pos bs n.toNat hlt']
         exact congrArg some hv
        refine zan.d (v:=.int .u8 z.toNat) ?_ (VRD.int _ _)
        simp [execOp,Instr.index,hb,VRD.int_inv hi',asIntOf,run_underlying hu,hn0,hz']
      · cases hx
    · cases hx
  · rename_i len e y' i' hu hy hi
    split at hc
    · rename_i sz g hsz hg
      split at hc
      · cases hc
        have hy':=za ht hy
        have hi':=za ht hi
        simp only [evP] at hx
        split at hx
        · rename_i cs k n e1 e2
          rw [e1] at hy'
          rw [e2] at hi'
          split at hx
          · rename_i hcond
            simp only [Option.map_eq_some_iff] at hx
            obtain ⟨z,hz,rfl⟩:=hx
            obtain ⟨vs,hb,hvs,hone⟩:=VRD.agg_inv hy'
            obtain ⟨v,hv,hr⟩:=zuv (P:=c.P) (w:=w) hg hsz hvs hone hz
            exact zan.d (by simp [execOp,Instr.index,hb,VRD.int_inv hi',asIntOf,run_underlying hu,hcond.1,hcond.2,z6 hsz,hv]) hr
          · cases hx
        · cases hx
      · cases hc
    · cases hc
  · cases hc
 | build t ps =>
  simp only [cOp] at hc
  split at hc
  · rename_i z fs hz hu
    split at hc
    · rename_i hall
      simp only [Option.map_eq_some_iff] at hc
      obtain ⟨ps',hps,rfl⟩:=hc
      obtain ⟨places,hpl,hpi⟩:=zn3 (P:=c.P) fs.toList (by simpa using hall)
      have hfun:zcu c.P fs=fun i=>places[i]?:=by
       funext i
       rw [hpi i]
      obtain ⟨v,hv,y,rfl,hr⟩:=zq8 (P:=c.P) (w:=w) ht hz hps (fun zv cells hzi hfill=>by
       obtain ⟨it,hit,hzz⟩:=hzi
       rw [hfun] at hfill
       simp only [Program.built,hit,hu,hzz,hpl]
       simpa using hfill) hx
      exact zan.d (by simp only [execOp,Sem.run_bind,hv];rfl) hr
    · cases hc
  · rename_i z n e hz hu
    split at hc
    · rename_i sz hsz
      simp only [Option.map_eq_some_iff] at hc
      obtain ⟨ps',hps,rfl⟩:=hc
      obtain ⟨ie,hie,hies⟩:=zcs hsz
      obtain ⟨v,hv,y,rfl,hr⟩:=zq8 (P:=c.P) (w:=w) ht hz hps (fun zv cells hzi hfill=>by
       obtain ⟨it,hit,hzz⟩:=hzi
       simp only [Program.built,hit,hu,hzz,hie,hies]
       simpa using hfill) hx
      exact zan.d (by simp only [execOp,Sem.run_bind,hv];rfl) hr
    · cases hc
  · cases hc
 | slice t y lo hi mx =>
  simp only [cOp] at hc
  split at hc
  · rename_i y' hy
    have hy':=za ht hy
    rcases zdh hc with ⟨hu,rfl,l0,h0,hl0,hh0,rfl⟩|⟨e,sz,hu,hsz,hcase⟩
    · simp only [evP] at hx
      split at hx
      · rename_i s e
        rw [e] at hy'
        split at hx
        · rename_i l h2 hl hh
          split at hx
          · rename_i hcond
            cases hx
            obtain ⟨bs,hb,rfl⟩:=VRD.str_inv hy'
            have hlen:bs.data.toList.length=bs.size:=Array.length_toList
            rw [hlen] at hh hcond
            have hr:=zfv (P:=c.P) (w:=w) (isSlice:=false) (cap:=bs.size) ht hl0 hh0 hl hh hcond.1 hcond.2.1 hcond.2.2 (Nat.le_refl _)
            refine zan.d (v:=.string (bs.extract l.toNat h2.toNat)) ?_ (VRD.str _ _ ?_)
            · simp only [execOp,hb,Sem.run_bind,Instr.sliceAt,Instr.slice,run_underlying hu,Result.andThen_ok,Option.isSome_none,Option.map_none,Bool.false_eq_true,if_false,hr,Sem.run_pure]
            · rw [ByteArray.data_extract,Array.toList_extract,List.extract_eq_take_drop,List.drop_take]
          · cases hx
        · cases hx
      · cases hx
    · rcases hcase with ⟨rfl,l0,h0,hl0,hh0,rfl⟩|⟨_,_,_,rfl⟩|⟨_,_,_,_,_,_,_,_,_,rfl⟩|h3
      · simp only [evP] at hx
        split at hx
        · rename_i es e1
          split at hx
          · rename_i hes
            split at hx
            · rename_i l h2 hl hh
              split at hx
              · rename_i hcond
                cases hx
                rcases (zcy hy' e1).2 es rfl with ⟨rfl,oa,hpv⟩|⟨b,off,cap,c0,hpv,hcap,hvc,hS⟩
                · have hr:=zfv (P:=c.P) (w:=w) (isSlice:=true) (len:=0) (cap:=0) ht hl0 hh0 hl hh hcond.1 hcond.2.1 hcond.2.2 (by omega)
                  refine zan.d (v:=.slice oa 0 0) ?_ (by simpa using VRD.empty rfl)
                  have h20:h2.toNat=0:=by have:=hcond.2.2;simp at this;omega
                  have hl0:l.toNat=0:=by have:=hcond.2.1;omega
                  cases oa<;>simp only [execOp,hpv,Sem.run_bind,Instr.sliceAt,Instr.slice,run_underlying hu,Result.andThen_ok,Option.map_none,hr,z6 hsz,Sem.run_pure]
                  · simp [h20]
                  · simp [h20,hl0]
                have hr:=zfv (P:=c.P) (w:=w) (isSlice:=true) ht hl0 hh0 hl hh hcond.1 hcond.2.1 hcond.2.2 hcap
                have hlen:((es.take h2.toNat).drop l.toNat).length=h2.toNat - l.toNat:=by rw [List.length_drop,List.length_take];omega
                have hes':((es.take h2.toNat).drop l.toNat).all (zb sz)=true:=zcd (zdv hes _) _
                refine zan.d (v:=.slice (some (if cap=l.toNat then ⟨b,off,none⟩ else ⟨b,off+l.toNat * sz,none⟩)) (h2.toNat - l.toNat) (cap - l.toNat)) ?_ ?_
                · simp only [execOp,hpv,Sem.run_bind,Instr.sliceAt,Instr.slice,run_underlying hu,Result.andThen_ok,Option.map_none,hr,z6 hsz,Sem.run_pure]
                  by_cases hcl:cap=l.toNat
                  · simp [hcl]
                  · simp [hcl,zao]
                · rw [← hlen]
                  have hfl:zag ((es.take h2.toNat).drop l.toNat)=((zag es).take (h2.toNat * sz)).drop (l.toNat * sz):=by
                   rw [zjf _ (zdv hes _),znc _ hes]
                  by_cases hcl:cap=l.toNat
                  · rw [if_pos hcl]
                    have hnil:(es.take h2.toNat).drop l.toNat=[]:=List.eq_nil_of_length_eq_zero (by rw [hlen];omega)
                    rw [hnil]
                    exact VRD.list_mk (sz:=0) (es:=[]) (c:=[]) rfl (by simp) rfl zz.nil (fun j v hj=>by simp at hj)
                  · rw [if_neg hcl]
                    refine VRD.list_mk (c:=(c0.take (h2.toNat * sz)).drop (l.toNat * sz)) rfl (by rw [hlen];omega) hes' (by rw [hfl];exact (hvc.take _).drop _) fun j u hj=>?_
                    rw [List.getElem?_drop,List.getElem?_take] at hj
                    split at hj
                    · have:=hS _ _ hj
                      rw [← Nat.add_assoc] at this;exact this
                    · cases hj
              · cases hx
            · cases hx
          · cases hx
        · rename_i e1
          split at hx
          · rename_i l h2 hl hh
            split at hx
            · rename_i hcond
              cases hx
              obtain ⟨rfl,rfl⟩:=hcond
              have hpv:=(zcy hy' e1).1 rfl
              have hr:=zfv (P:=c.P) (w:=w) (isSlice:=true) (len:=0) (cap:=0) ht hl0 hh0 hl hh (by omega) (by omega) (by omega) (by omega)
              refine zan.d (v:=.slice none 0 0) ?_ VRD.nilS
              simp only [execOp,hpv,Sem.run_bind,Instr.sliceAt,Instr.slice,run_underlying hu,Result.andThen_ok,Option.map_none,hr,z6 hsz,Sem.run_pure]
              simp
            · cases hx
          · cases hx
        · rename_i b off len cap e1
          obtain ⟨hpv,hlc⟩:=zhb hy' e1
          split at hx
          · rename_i l h2 hl hh
            split at hx
            · rename_i hcond
              cases hx
              have hr:=zj3 (P:=c.P) (w:=w) (isSlice:=true) (len:=len) (cap:=cap) ht hl0 hh0 hl hh hcond.1 hcond.2.1 hcond.2.2
              refine zan.d (v:=.slice (some ⟨b,if cap=l.toNat then off else off+l.toNat * sz,none⟩) (h2.toNat - l.toNat) (cap - l.toNat)) ?_ (VRD.gs _ _ _ _ (by omega))
              simp only [execOp,hpv,Sem.run_bind,Instr.sliceAt,Instr.slice,run_underlying hu,Result.andThen_ok,Option.map_none,hr,z6 hsz,Sem.run_pure]
              by_cases hcl:cap=l.toNat
              · simp [hcl]
              · simp [hcl,zao]
            · cases hx
          · cases hx
        · cases hx
      · exact (by cases hn)
      · exact (by cases hn)
      · obtain ⟨l0,hi',mx',h0,m0,hl0,rfl,rfl,hh0,hm0,rfl⟩:=h3
        simp only [evP] at hx
        split at hx
        · rename_i b off len cap e1
          obtain ⟨hpv,hlc⟩:=zhb hy' e1
          split at hx
          · rename_i l h2 m hl hh hm
            split at hx
            · rename_i hcond
              cases hx
              have hr:=zgh (P:=c.P) (w:=w) (isSlice:=true) (len:=len) (cap:=cap) ht hl0 hh0 hm0 hl hh hm hcond.1 hcond.2.1 hcond.2.2.1 hcond.2.2.2
              refine zan.d (v:=.slice (some ⟨b,if m.toNat=l.toNat then off else off+l.toNat * sz,none⟩) (h2.toNat - l.toNat) (m.toNat - l.toNat)) ?_ (VRD.gs _ _ _ _ (by omega))
              simp only [execOp,hpv,Sem.run_bind,Instr.sliceAt,Instr.slice,run_underlying hu,Result.andThen_ok,Option.map_some,hr,z6 hsz,Sem.run_pure]
              by_cases hcl:m.toNat=l.toNat
              · simp [hcl]
              · simp [hcl,zao]
            · cases hx
          · cases hx
        · cases hx
  · cases hc
 | convert s d y =>
  simp only [cOp] at hc
  split at hc
  · rename_i y' hy
    have hy':=za ht hy
    unfold zmj at hc
    split at hc
    · rename_i ts k hs hd
      cases hc
      simp only [evP] at hx
      split at hx
      · rename_i k0 n e
        rw [e] at hy'
        cases hx
        refine zan.d (v:=.int k (k.wrap n)) ?_ (VRD.int _ _)
        simp only [execOp,VRD.int_inv hy',Sem.run_bind,Go.convert,run_underlying hs,run_underlying hd,Result.andThen_ok]
        cases ts<;>rfl
      · cases hx
    · rename_i hs hd
      cases hc
      simp only [evP] at hx
      split at hx
      · rename_i l e
        rw [e] at hy'
        simp only [bnd] at hx
        simp at hx
        subst hx
        obtain ⟨bs,hb,rfl⟩:=VRD.str_inv hy'
        refine zan.d (v:=.string bs) ?_ (VRD.str _ _ rfl)
        simp [execOp,hb,Go.convert,run_underlying hs,run_underlying hd]
      · cases hx
    · rename_i e hs hd
      split at hc
      · rename_i hu8
        cases hc
        have hue:c.P.underlying e=some (.int .u8):=by
         unfold zzp at hu8
         split at hu8
         · assumption
         · cases hu8
        simp only [evP] at hx
        split at hx
        · rename_i e1
          cases hx
          have hpv:=(zcy hy' e1).1 rfl
          refine zan.d (v:=.string .empty) ?_ (VRD.str _ _ rfl)
          simp [execOp,hpv,Go.convert,run_underlying hs,run_underlying hd,run_underlying hue,Conv.bytesToString]
        · rename_i es e1
          simp only [Option.map_eq_some_iff] at hx
          obtain ⟨l,hl,rfl⟩:=hx
          rcases (zcy hy' e1).2 es rfl with ⟨rfl,oa,hpv⟩|⟨b,off,cap,c0,hpv,hcap,hvc,hS⟩
          · simp [zbh] at hl
            subst hl
            cases oa with
            | none =>
             refine zan.d (v:=.string .empty) ?_ (VRD.str _ _ rfl)
             simp [execOp,hpv,Go.convert,run_underlying hs,run_underlying hd,run_underlying hue,Conv.bytesToString]
            | some ad =>
             refine zan.d (v:=.string ⟨#[]⟩) ?_ (VRD.str _ _ rfl)
             have hload:=run_loadCells_list (P:=c.P) w ad [] (fun j u hj=>by simp at hj)
             simp only [execOp,hpv,Go.convert,Sem.run_bind,run_underlying hs,run_underlying hd,run_underlying hue,Result.andThen_ok]
             have:=zpt (P:=c.P) (w:=w) (b:=ad) (n:=0) (cap:=0) (ns:=[]) (by simpa using hload)
             rw [this];rfl
          have hfe:zag es=es:=zn4 hl
          rw [hfe] at hvc
          obtain ⟨ns,hc0,hl0⟩:=zgi hl hvc
          refine zan.d (v:=.string ⟨l.toArray⟩) ?_ (VRD.str _ _ rfl)
          have hload:=run_loadCells_list (P:=c.P) w ⟨b,off,none⟩ c0 (fun j u hj=>by rw [zao];exact h.sub _ _ (hS j u hj))
          have hcl:c0.length=es.length:=by rw [hvc.1]
          rw [hcl] at hload
          simp only [execOp,hpv,Go.convert,Sem.run_bind,run_underlying hs,run_underlying hd,run_underlying hue,Result.andThen_ok]
          have:=zpt (P:=c.P) (w:=w) (b:=⟨b,off,none⟩) (n:=es.length) (cap:=cap) (by rw [hc0] at hload;exact hload)
          rw [this,hl0];rfl
        · cases hx
      · cases hc
    · split at hc
      · cases hc
        by_cases hin:zkz c dst=true
        · rw [if_pos hin] at hx;simp [evP] at hx
        · rw [if_neg hin] at hn;cases hn
      · cases hc
    · cases hc
  · cases hc
 | call cl =>
  simp only [cOp] at hc
  obtain ⟨callee,args,argTypes⟩:=cl
  obtain ⟨as⟩:=args
  obtain ⟨ts⟩:=argTypes
  cases callee with
  | value f =>
   simp only [zck] at hc
   split at hc
   · cases hc;simp [evP] at hx
   · cases hc
  | invoke r m=>obtain ⟨_,_,_,_,_,rfl⟩:=zb5 hc;simp [evP] at hx
  | builtin b =>
   have hm:∀ (p q:Operand),(execOp a.eval ⟨dst,.call { callee:=.builtin b,args:=#[p,q],argTypes:=ts.toArray },ty,pos,after,guard⟩)=(do let v ← Go.builtin b ts.toArray ty (#[p,q].map fun|.const _=>true|_=>false) #[a.eval p,a.eval q];pure v):=by
    intro p q
    simp [execOp,resolve,invoke]
    rfl
   cases b with
   | len =>
    simp only [zck] at hc
    split at hc
    · rename_i y t
      split at hc
      · rename_i y' hy hu
        cases hc
        have hy':=za ht hy
        simp only [evP] at hx
        split at hx
        · rename_i z e
          simp only [Option.map_eq_some_iff] at hx
          obtain ⟨n,hz,rfl⟩:=hx
          have hd:=hy'.data e
          cases z<;>simp [z73] at hz
          subst hz
          obtain ⟨bs,hb,rfl⟩:=hd.str_inv
          refine zan.d (v:=.int .i64 bs.size) ?_ ?_
          · simp [execOp,resolve,invoke,Go.builtin,Builtin.len_,run_underlying hu,hb,goInt]
          · have hlen:bs.data.toList.length=bs.size:=Array.length_toList
            rw [hlen];exact VRD.int _ _
        · cases hx
      · rename_i y' e hy hu
        cases hc
        have hy':=za ht hy
        simp only [evP] at hx
        split at hx
        · rename_i z e0
          simp only [Option.map_eq_some_iff] at hx
          obtain ⟨n,hz,rfl⟩:=hx
          have hd:=hy'.data e0
          cases z<;>simp [z73] at hz
          · subst hz
            obtain ⟨ad,cap,c0,hb,_⟩:=hd.list_inv'
            exact zan.d (by simp [execOp,resolve,invoke,Go.builtin,Builtin.len_,run_underlying hu,hb,goInt]) (VRD.int _ _)
          · subst hz
            have hb:=hd.nilS_inv
            exact zan.d (by simp [execOp,resolve,invoke,Go.builtin,Builtin.len_,run_underlying hu,hb,goInt]) (VRD.int _ _)
          · subst hz
            obtain ⟨hb,_⟩:=zhb hy' e0
            exact zan.d (by simp [execOp,resolve,invoke,Go.builtin,Builtin.len_,run_underlying hu,hb,goInt]) (VRD.int _ _)
        · cases hx
      · cases hc
    · cases hc
   | cap =>
    simp only [zck] at hc
    split at hc
    · rename_i y t
      split at hc
      · rename_i y' e hy hu
        cases hc
        have hy':=za ht hy
        simp only [evP] at hx
        split at hx
        · rename_i e0
          cases hx
          have hb:=(hy'.data e0).nilS_inv
          exact zan.d (v:=.int .i64 0) (by simp [execOp,resolve,invoke,Go.builtin,Builtin.cap_,run_underlying hu,hb,goInt]) (VRD.int _ _)
        · rename_i b off len cap e0
          cases hx
          obtain ⟨hb,_⟩:=zhb hy' e0
          exact zan.d (v:=.int .i64 cap) (by simp [execOp,resolve,invoke,Go.builtin,Builtin.cap_,run_underlying hu,hb,goInt]) (VRD.int _ _)
        · cases hx
      · cases hc
    · cases hc
   | copy =>
    simp only [zck] at hc
    split at hc
    · split at hc
      · split at hc
        · split at hc
          · cases hc;exact (by cases hn)
          · cases hc
        · cases hc
      · cases hc
    · cases hc
   | max =>
    simp only [zck] at hc
    split at hc
    · rename_i p q
      split at hc
      · rename_i p' q' hp hq
        cases hc
        have hp':=za ht hp
        have hq':=za ht hq
        simp only [evP] at hx
        split at hx
        · rename_i k m k2 n e1 e2
          rw [e1] at hp'
          rw [e2] at hq'
          cases hx
          exact zan.d (by rw [hm];simp [Go.builtin,Builtin.max_,Builtin.max2,VRD.int_inv hp',VRD.int_inv hq']) (VRD.int _ _)
        · cases hx
      · cases hc
    · cases hc
   | min =>
    simp only [zck] at hc
    split at hc
    · rename_i p q
      split at hc
      · rename_i p' q' hp hq
        cases hc
        have hp':=za ht hp
        have hq':=za ht hq
        simp only [evP] at hx
        split at hx
        · rename_i k m k2 n e1 e2
          rw [e1] at hp'
          rw [e2] at hq'
          cases hx
          exact zan.d (by rw [hm];simp [Go.builtin,Builtin.min_,Builtin.min2,VRD.int_inv hp',VRD.int_inv hq']) (VRD.int _ _)
        · cases hx
      · cases hc
    · cases hc
   | append =>
    obtain ⟨_,_,_,_,_,_,_,_,_,_,_,_,_,_,_,_,_,_,hcase⟩:=ze9 hc
    rcases hcase with ⟨_,rfl⟩|⟨_,_,rfl|⟨rfl,_⟩⟩
    · split at hx<;>simp [evP] at hx
    · simp [evP] at hx
    · simp [evP] at hx
   | _=>simp [zck] at hc
 | alloc e =>
  simp only [cOp,Option.map_eq_some_iff] at hc
  obtain ⟨z,_,rfl⟩:=hc
  simp [evP] at hx
 | box e y =>
  simp only [cOp] at hc
  split at hc
  · cases hc;simp [evP] at hx
  · cases hc
 | store t p q =>
  simp only [cOp] at hc
  split at hc
  · cases hc;simp [evP] at hx
  · cases hc
 | buildSlice t n ps =>
  simp only [cOp] at hc
  split at hc
  · cases hc
  · split at hc
    · split at hc
      · split at hc
        · cases hc;exact (by split at hn<;>cases hn)
        · split at hc
          · cases hc;exact (by split at hn<;>cases hn)
          · cases hc
      · cases hc
    · cases hc
 | _=>simp [cOp] at hc
end
end Go.E2
