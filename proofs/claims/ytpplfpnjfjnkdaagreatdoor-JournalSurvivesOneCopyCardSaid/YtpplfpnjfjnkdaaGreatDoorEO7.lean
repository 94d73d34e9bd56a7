/-
 Operations that lay a block that may change,and those that write zao a slice zaw one.
 Conditions: none;laws.
-/
import Derived.Test.YtpplfpnjfjnkdaaGreatDoorEO6
namespace Go.E2
theorem zef {S:Stb} {z:List D} {zv:Array Value} (h:z6 S z zv.toList) (n:Nat):z6 S (rep n z) (Builtin.zeroCells zv n).toList:=by
 have hzl:zv.size=z.length:=by have:=h.1;simpa using this
 have hlen:(rep n z).length=n * z.length:=by simp [rep]
 refine ⟨by simp [Builtin.zeroCells,hlen,hzl],fun j x v hx hv=>?_⟩
 have hj:j<n * z.length:=by rw [← hlen];exact (List.getElem?_eq_some_iff.1 hx).1
 have hpos:0<z.length:=Nat.pos_of_ne_zero fun e=>by rw [e] at hj;simp at hj
 have hx':z[j % z.length]?=some x:=by
  have gen:∀ (n j:Nat),j<n * z.length→(rep n z)[j]?=z[j % z.length]?:=by
   intro n
   induction n with
   | zero=>intro j hj;simp at hj
   | succ n ih =>
    intro j hj
    have:rep (n+1) z=z++rep n z:=by simp [rep,List.replicate_succ]
    rw [this]
    by_cases hlt:j<z.length
    · rw [List.getElem?_append_left hlt,Nat.mod_eq_of_lt hlt]
    · rw [List.getElem?_append_right (by omega),ih (j - z.length) (by rw [Nat.add_mul] at hj;omega)]
      congr 1
      rw [Nat.mod_eq_sub_mod (by omega:z.length≤j)]
  rw [← gen n j hj];exact hx
 have hm:j % z.length<zv.size:=by rw [hzl];exact Nat.mod_lt _ hpos
 have hv':v=zv[j % z.length]!:=by
  simp [Builtin.zeroCells,hzl,hj] at hv
  exact hv.symm
 refine h.2 (j % z.length) x v hx' ?_
 rw [hv']
 simp [hm]
theorem zgp {z:List D} (h:z.all D.one=true):∀ n,(rep n z).all D.one=true
 | 0=>by simp [rep]
 | n+1=>by
   have:rep (n+1) z=z++rep n z:=by simp [rep,List.replicate_succ]
   rw [this,List.all_append,h,zgp h n];rfl
section
variable {P:Program} (w:World)
theorem zmn (t u ty e:TypeId) (i:TypeInfo) (ht:P.underlying t=some (.slice e)) (hu:zjh P u) (hi:P.info? e=some i)
 (g off n cap:Nat) (cur:Array Value) (eb:TypeId) (hg:w.heap[g]?=some (.cells cur eb (0,0))) (y:Value) (m:Nat) (news:List Value) (hy:ze0 P i.size y m news w)
 (h1:∀ v∈news,v.oneCell'=true) (hroom:n+m≤cap) (hfit:off+n * i.size+news.length≤cur.size) :
 (Builtin.append_ #[t,u] ty #[.slice (some ⟨g,off,none⟩) n cap,y]).run P w =
   .ok (.slice (some ⟨g,off,none⟩) (n+m) cap) (w.setRow g (cur.toList.take (off+n * i.size)++news++cur.toList.drop (off+n * i.size+news.length)).toArray):=by
 have hst:=run_storeCells_at P g (off+n * i.size) eb news 0 cur w hg (by simpa using hfit) h1
 simp only [Nat.add_zero] at hst
 have hf:=hy.first w rfl
 rcases hu with ⟨e',hu⟩|hu<;>simp [Builtin.append_,run_underlying ht,run_underlying hu,sizeOf,typeInfo,hi,hy.len,hroom,hf,zau,hst]
theorem zmo (t u ty e:TypeId) (k:IntKind) (i:TypeInfo) (z:Value) (ht:P.underlying t=some (.slice e)) (hu:P.underlying u=some (.int k)) (hi:P.info? e=some i) (hz:i.zero=some z) (hzs:z.cells.size=i.size)
 (b:Option Addr) (g off n cap:Nat) (hb:b=some ⟨g,off,none⟩) (cur:Array Value) (eb:TypeId) (hg:w.heap[g]?=some (.cells cur eb (0,0))) (k':IntKind) (m:Nat) (hm:m * i.bytes≤mostBytes) (hby:0<i.bytes)
 (h1:∀ v∈(Builtin.zeroCells z.cells m).toList,v.oneCell'=true) (hroom:n+m≤cap) (hfit:off+n * i.size+m * i.size≤cur.size) :
 (Builtin.append_ #[t,u] ty #[.slice b n cap,.int k' m]).run P w =
   .ok (.slice b (n+m) cap) (w.setRow g (cur.toList.take (off+n * i.size)++(Builtin.zeroCells z.cells m).toList++cur.toList.drop (off+n * i.size+(Builtin.zeroCells z.cells m).toList.length)).toArray):=by
 subst hb
 have hzl:(Builtin.zeroCells z.cells m).toList.length=m * i.size:=by rw [Array.length_toList,zd8,hzs]
 have hst:=run_storeCells_at P g (off+n * i.size) eb (Builtin.zeroCells z.cells m).toList 0 cur w hg (by rw [hzl];simpa using hfit) h1
 simp only [Nat.add_zero] at hst
 have hml:m≤mostBytes:=Nat.le_trans (by have:=Nat.mul_le_mul_left m hby;omega) hm
 have hw1:IntKind.i64.wrap (m:Int)=m:=by rw [IntKind.wrap_i64];unfold mostBytes at hml;omega
 have hneg:¬ ((m:Int)<0):=by omega
 have hbig:¬ ((281474976710656:Int)<(m:Int) * (i.bytes:Int)):=by
  have e:((m:Int) * (i.bytes:Int))=((m * i.bytes:Nat):Int):=(Int.natCast_mul _ _).symm
  have hm':m * i.bytes≤140737488355328:=hm
  rw [e]
  omega
 by_cases h0:m * i.size=0
 · have hz0:(Builtin.zeroCells z.cells m).toList=[]:=List.eq_nil_of_length_eq_zero (by rw [hzl,h0])
   have hst0:=hst
   rw [hz0] at hst0
   simp [Builtin.append_,run_underlying ht,run_underlying hu,sizeOf,typeInfo,zeroValue,hi,hz,asInt,asIntOf,hw1,hneg,hbig,hroom,zau,hz0,hst0]
 · simp [Builtin.append_,run_underlying ht,run_underlying hu,sizeOf,typeInfo,zeroValue,hi,hz,asInt,asIntOf,hw1,hneg,hbig,hroom,zau,h0,hst]
theorem zom (t u ty e:TypeId) (k:IntKind) (i:TypeInfo) (z:Value) (ht:P.underlying t=some (.slice e)) (hu:P.underlying u=some (.int k)) (hi:P.info? e=some i) (_hz:i.zero=some z) (k':IntKind) :
 (Builtin.append_ #[t,u] ty #[.slice none 0 0,.int k' 0]).run P w=.ok (.slice none 0 0) w:=by
 have hw1:IntKind.i64.wrap (0:Int)=0:=by rw [IntKind.wrap_i64];omega
 simp [Builtin.append_,run_underlying ht,run_underlying hu,sizeOf,typeInfo,hi,asInt,asIntOf,hw1]
theorem zmp (t u ty e:TypeId) (k:IntKind) (i:TypeInfo) (z:Value) (ht:P.underlying t=some (.slice e)) (hu:P.underlying u=some (.int k)) (hi:P.info? e=some i) (hz:i.zero=some z) (hzs:z.cells.size=i.size)
 (x:Option Addr) (n cap:Nat) (olds:List Value) (hx:ze0 P i.size (.slice x n cap) n olds w) (k':IntKind) (m:Nat) (hm:m * i.bytes≤mostBytes) (hby:0<i.bytes)
 (hg:cap<n+m) (h63:((n+m:Nat):Int)≤9223372036854775807) (hfit:Builtin.nextslicecap (n+m) cap * i.bytes≤281474976710656) :
 (Builtin.append_ #[t,u] ty #[.slice x n cap,.int k' m]).run P w =
   .ok (.slice (some ⟨w.heap.size,0,none⟩) (n+m) (grownCap w (n+m) cap e))
    (w.drew.alloc (.cells (olds.toArray++Builtin.zeroCells z.cells m++Builtin.zeroCells z.cells (grownCap w (n+m) cap e - (n+m))) e)):=by
 have hml:m≤mostBytes:=Nat.le_trans (by have:=Nat.mul_le_mul_left m hby;omega) hm
 have hw1:IntKind.i64.wrap (m:Int)=m:=by rw [IntKind.wrap_i64];unfold mostBytes at hml;omega
 have hneg:¬ ((m:Int)<0):=by omega
 have hbig:¬ ((281474976710656:Int)<(m:Int) * (i.bytes:Int)):=by
  have e:((m:Int) * (i.bytes:Int))=((m * i.bytes:Nat):Int):=(Int.natCast_mul _ _).symm
  have hm':m * i.bytes≤140737488355328:=hm
  rw [e]
  omega
 have hn:¬ (n+m≤cap):=by omega
 have h63':¬ (9223372036854775807<((n:Int)+(m:Int))):=by omega
 have h48':¬ (281474976710656<Builtin.nextslicecap (n+m) cap * i.bytes):=by omega
 have hfo:=hx.first w.drew rfl
 by_cases h0:m * i.size=0
 · have hz0:Builtin.zeroCells z.cells m=#[]:=Array.eq_empty_of_size_eq_zero (by rw [zd8,hzs,h0])
   simp [Builtin.append_,run_underlying ht,run_underlying hu,sizeOf,typeInfo,zeroValue,hi,hz,asInt,asIntOf,hw1,hneg,hbig,hn,h63',h48',Question.forced,hz0,hfo,newRow,grownCap]
 · simp [Builtin.append_,run_underlying ht,run_underlying hu,sizeOf,typeInfo,zeroValue,hi,hz,asInt,asIntOf,hw1,hneg,hbig,hn,h63',h48',Question.forced,h0,hfo,newRow,grownCap]
end
section
variable {S:Stb} {ms:List (Nat→Nat)} {ow:Nat→Option Nat} {base:Nat} {O:Nat→Prop} {ρ:Env} {L:Hp} {σ:List Hp} {G:Gh} {a:Act} {w:World} {c:Ctx} {o:Oper}
theorem ze0.of_view {P:Program} {lv:List Hp} (h:zc0 S ms lv G w) {sz:Nat} {y:D} {v:Value} {m:Nat} {ys:List D} (hy:za7 G sz y=some (m,ys)) (hv:VRD S y v) :
 ∃ news,ze0 P sz v m news w∧z6 S ys news∧ys.all D.one=true∧ys.length=m * sz:=by
 obtain ⟨news,h1,h2,h3,h4,h5⟩:=zml (P:=P) h hy hv
 refine ⟨news,⟨h4,fun w' hw'=>?_⟩,h1,h2,h3⟩
 have:=h5 w' m (fun ad _=>by simp only [World.cell?,hw']) (Nat.le_refl _)
 rw [List.take_of_length_le (by rw [h1.1,h3];exact Nat.le_refl _)] at this
 exact this
theorem ze0.of_viewS {P:Program} {lv:List Hp} (h:zc0 S ms lv G w) {sz:Nat} {y:D} {v:Value} {m:Nat} {ys:List D} (hy:zne G sz y=some (m,ys)) (hv:VRD S y v) :
 ∃ news,ze0 P sz v m news w∧z6 S ys news∧ys.all D.one=true∧ys.length=m * sz:=by
 cases y with
 | str s =>
  simp only [zne] at hy
  split at hy
  · rename_i h1
    subst h1
    cases hy
    cases hv with
    | str s l h =>
     subst h
     refine ⟨_,⟨fun w'=>zt9 s w',fun w' _=>?_⟩,zrk S _,z1v _,by rw [zk8,Nat.mul_one]⟩
     rw [znf,List.take_of_length_le (by simp)]
  · cases hy
 | _=>exact ze0.of_view h (by exact hy) hv
theorem zvw (h:Rel S ms ow base O ρ L σ G a w) {d:Option Nat} (hd:∀ i,d=some i→i<a.tmps.size) {sz by_ n m:Nat} {z olds ys:List D} {zv:Array Value} {ov nv:List Value} {e:TypeId} {K:St→Prop}
 (hK:zs0 d sz by_ z olds ys n m ρ L σ G K) (hz:z6 S z zv.toList) (hzo:z.all D.one=true) (ho:z6 S olds ov) (hoo:olds.all D.one=true) (hn:z6 S ys nv) (hno:ys.all D.one=true) {cap:Nat} (hcap:n+m≤cap) :
 ∃ st,K st∧Rel S ms ow base O st.1 st.2.1 st.2.2.1 st.2.2.2 (a.put d (.slice (some ⟨w.heap.size,0,none⟩) (n+m) cap)) (w.drew.alloc (.cells (ov.toArray++nv.toArray++Builtin.zeroCells zv (cap - (n+m))) e)) ∧
   Evo base O S w S (w.drew.alloc (.cells (ov.toArray++nv.toArray++Builtin.zeroCells zv (cap - (n+m))) e))∧zam σ st.2.2.1:=by
 have hk:=hK.2 w.heap.size cap h.g_none hcap
 refine ⟨_,hk,?_,⟨by rw [za6 (w:=w.drew)];exact Nat.le_succ _,fun b hb _=>zp (w:=w.drew) (Nat.lt_of_lt_of_le hb h.bas),fun _ _=>rfl,Sub.refl S,rfl,rfl,rfl⟩,zam.refl _⟩
 have hbox:zeq S (w.drew.alloc (.cells (ov.toArray++nv.toArray++Builtin.zeroCells zv (cap - (n+m))) e)) w.heap.size (olds++ys++rep (cap - (n+m)) z):=by
  refine ⟨_,e,zab (w:=w.drew),?_,?_⟩
  · simp only [Array.toList_append]
    exact (ho.append hn).append (zef hz _)
  · rw [List.all_append,List.all_append,hoo,hno,zgp hzo];rfl
 exact (h.allocG (by exact za6 (w:=w.drew)) (fun b hb=>zp (w:=w.drew) hb) hbox).put (x:=.d (.gs w.heap.size 0 (n+m) cap)) (VRD.gs _ _ _ _ hcap) (fun _ _ e=>by cases e) hd
theorem zon {n m by_ cap nb:Nat} (hb:nb=by_) (hby:0<by_) (hc:cap<n+m) (h:(n+m) * by_≤mostBytes):((n+m:Nat):Int)≤9223372036854775807∧Builtin.nextslicecap (n+m) cap * nb≤281474976710656:=by
 subst hb
 have:(n+m) * 1≤(n+m) * nb:=Nat.mul_le_mul_left _ hby
 unfold mostBytes at h
 exact ⟨by omega,growslice_fits (bytes:=nb) hc h⟩
theorem zvx (h:Rel S ms ow base O ρ L σ G a w) {d:Option Nat} (hd:∀ i,d=some i→i<a.tmps.size) {P:Program} {t u ty e:TypeId} {i:TypeInfo} {zv:Value} {z:List D} (_hi:P.info? e=some i) (hzs:z6 S z zv.cells.toList) (hzo:z.all D.one=true) (_hzl:zv.cells.size=i.size) (_hsz:0<i.size) (hby:0<i.bytes)
 {x:D} {xv yv:Value} (hx:VRD S x xv) {m:Nat} {ys:List D} {news:List Value} (hvn:z6 S ys news) (hon:ys.all D.one=true) (hyl:ys.length=m * i.size)
 (rsame:∀ b n cap,m=0→xv=.slice none 0 0→b=(none:Option Addr)→n=0→cap=0→(Builtin.append_ #[t,u] ty #[xv,yv]).run P w=.ok (.slice none 0 0) w)
 (rroom:∀ g off n cap cur eb,xv=.slice (some ⟨g,off,none⟩) n cap→w.heap[g]?=some (.cells cur eb (0,0))→n+m≤cap→off+n * i.size+news.length≤cur.size→(Builtin.append_ #[t,u] ty #[xv,yv]).run P w =
   .ok (.slice (some ⟨g,off,none⟩) (n+m) cap) (w.setRow g (cur.toList.take (off+n * i.size)++news++cur.toList.drop (off+n * i.size+news.length)).toArray))
 (rgrow:∀ b n cap olds,xv=.slice b n cap→ze0 P i.size (.slice b n cap) n olds w→cap<n+m→((n+m:Nat):Int)≤9223372036854775807→Builtin.nextslicecap (n+m) cap * i.bytes≤281474976710656→(Builtin.append_ #[t,u] ty #[xv,yv]).run P w =
   .ok (.slice (some ⟨w.heap.size,0,none⟩) (n+m) (grownCap w (n+m) cap e)) (w.drew.alloc (.cells (olds.toArray++news.toArray++Builtin.zeroCells zv.cells (grownCap w (n+m) cap e - (n+m))) e)))
 {K:St→Prop} (hK:zrj d i.size i.bytes z x m ys ρ L σ G K) :
 ∃ st v w',K st∧(Builtin.append_ #[t,u] ty #[xv,yv]).run P w=.ok v w'∧Rel S ms ow base O st.1 st.2.1 st.2.2.1 st.2.2.2 (a.put d v) w'∧Evo base O S w S w'∧zam σ st.2.2.1:=by
 unfold zrj at hK
 split at hK
 · have hxv:=VRD.nilS_inv hx
   split at hK
   · rename_i hm
     exact ⟨_,_,_,hK,rsame none 0 0 hm hxv rfl rfl rfl,h.put (x:=.d .nilS) VRD.nilS (fun _ _ e=>by cases e) hd,Evo.refl _ _ _ _,zam.refl _⟩
   · rename_i hm
     have hc:0<0+m:=by omega
     obtain ⟨h63,hfit⟩:=zon (n:=0) (m:=m) (cap:=0) rfl hby hc hK.1
     have hso:ze0 P i.size (.slice none 0 0) 0 [] w:=⟨fun w'=>by simp [Builtin.lenOf],fun w' _=>by simp [Builtin.firstCells]⟩
     have hr:=rgrow none 0 0 [] hxv hso hc h63 hfit
     obtain ⟨st,k1,k2,k3,k4⟩:=zvw (e:=e) h hd hK hzs hzo (ov:=[]) z6.nil rfl hvn hon (grownCap_ge w (0+m) 0 e)
     exact ⟨st,_,_,k1,hr,k2,k3,k4⟩
 · rename_i b off n cap
   obtain ⟨hxv,hnc⟩:xv=.slice (some ⟨b,off,none⟩) n cap∧n≤cap:=by cases hx;rename_i hh;exact ⟨rfl,hh⟩
   split at hK
   · rename_i cs hcs
     obtain ⟨hfit0,hK⟩:=hK
     obtain ⟨c0,e0,hc0,hvc,hone⟩:=h.h.gbox hcs
     have hcl:c0.size=cs.length:=by have:=hvc.1;simpa using this
     have hnl:news.length=m * i.size:=by rw [hvn.1,hyl]
     split at hK
     · rename_i hroom
       obtain ⟨hfit,hk⟩:=hK
       have hr:=rroom b off n cap c0 e0 hxv hc0 hroom (by rw [hnl,hcl];rw [Nat.add_mul] at hfit;omega)
       have hbox:=zff (w:=w) hc0 hvc hone hvn hon (off+n * i.size)
       exact ⟨_,_,_,hk,hr,(h.storeG hcs (by simp) (fun i hi=>setRow_other w b i _ hi) hbox).put (x:=.d (.gs b off (n+m) cap)) (VRD.gs _ _ _ _ hroom) (fun _ _ e=>by cases e) hd,
        Evo.store (b:=b) (by simp) (fun i hi=>setRow_other w b i _ hi) (h.gold hcs) rfl rfl rfl,zam.refl _⟩
     · rename_i hroom
       have hc:cap<n+m:=by omega
       obtain ⟨h63,hfit⟩:=zon (n:=n) (m:=m) (cap:=cap) rfl hby hc hK.1
       have hvw:za7 G i.size (.gs b off n cap)=some (n,(cs.drop off).take (n * i.size)):=by simp [za7,hcs,hfit0]
       obtain ⟨olds,hso,hvo,hoo,_⟩:=ze0.of_view (P:=P) h.h hvw (hxv▸hx)
       have hr:=rgrow _ n cap olds hxv hso hc h63 hfit
       obtain ⟨st,k1,k2,k3,k4⟩:=zvw (e:=e) h hd hK hzs hzo hvo hoo hvn hon (grownCap_ge w (n+m) cap e)
       exact ⟨st,_,_,k1,hr,k2,k3,k4⟩
   · exact hK.elim
 · exact hK.elim
end
end Go.E2
namespace Go.E2
section
variable {S:Stb} {ms:List (Nat→Nat)} {ow:Nat→Option Nat} {base:Nat} {O:Nat→Prop} {ρ:Env} {L:Hp} {σ:List Hp} {G:Gh} {a:Act} {w:World} {c:Ctx} {o:Oper}
theorem zf3 {c:Ctx} {dst:Option Nat} {callee:Callee} {as:List Operand} {ts:List TypeId} {ty:TypeId} {aop:AOp} (h:zcb c dst { callee,args:=⟨as⟩,argTypes:=⟨ts⟩ } ty=some aop)
 (hg:(∃ sz b z x y,aop=.appG sz b z x y)∨∃ sz b z x y,aop=.appZ sz b z x y):callee=.builtin .append:=by
 cases callee with
 | value f =>
  simp only [zcb] at h
  split at h
  · cases h;rcases hg with ⟨_,_,_,_,_,e⟩|⟨_,_,_,_,_,e⟩<;>cases e
  · cases h
 | invoke r m=>simp [zcb] at h
 | builtin b =>
  cases b<;>first|rfl|(exfalso;simp only [zcb] at h;(repeat' split at h)<;>first|(cases h;done)|(cases h;rcases hg with ⟨_,_,_,_,_,e⟩|⟨_,_,_,_,_,e⟩<;>cases e))
theorem ztm {dst:Option Nat} {ty:TypeId} {op:Op} {aop:AOp} (hc:cOp c dst ty op=some aop) (hg:(∃ sz b z x y,aop=.appG sz b z x y)∨∃ sz b z x y,aop=.appZ sz b z x y) :
 ∃ as ts,op=.call { callee:=.builtin .append,args:=⟨as⟩,argTypes:=⟨ts⟩ }∧zcb c dst { callee:=.builtin .append,args:=⟨as⟩,argTypes:=⟨ts⟩ } ty=some aop:=by
 have no:∀ {x:AOp},aop=x→(∀ sz b z p q,x≠.appG sz b z p q)→(∀ sz b z p q,x≠.appZ sz b z p q)→False:=by
  intro x e h1 h2
  subst e
  rcases hg with ⟨_,_,_,_,_,e⟩|⟨_,_,_,_,_,e⟩
  · exact h1 _ _ _ _ _ e
  · exact h2 _ _ _ _ _ e
 cases op with
 | call cl =>
  obtain ⟨callee,⟨as⟩,⟨ts⟩⟩:=cl
  simp only [cOp] at hc
  have:=zf3 hc hg
  subst this
  exact ⟨as,ts,rfl,hc⟩
 | unOp u t y =>
  cases u with
  | xor =>
   simp only [cOp] at hc
   split at hc
   · exact (no (Option.some.inj hc).symm (by intros;simp) (by intros;simp)).elim
   · cases hc
  | _=>simp [cOp] at hc<;>(obtain ⟨_,_,e⟩:=hc;exact (no e.symm (by intros;simp) (by intros;simp)).elim)
 | makeFunc fn x y =>
  cases fn with
  | func f =>
   simp only [cOp] at hc
   split at hc
   · simp only [Option.map_eq_some_iff] at hc
     obtain ⟨_,_,e⟩:=hc
     exact (no e.symm (by intros;simp) (by intros;simp)).elim
   · cases hc
  | _=>simp [cOp] at hc
 | binOp o t x y u =>
  simp only [cOp] at hc
  split at hc
  · unfold zz7 at hc
    (repeat' split at hc)<;>first|(cases hc;done)|(cases hc;exact (no rfl (by intros;simp) (by intros;simp)).elim)
  · cases hc
 | slice t x lo hi mx =>
  simp only [cOp] at hc
  split at hc
  · rcases zdl hc with ⟨_,_,_,_,_,_,e⟩|⟨_,_,_,_,⟨_,_,_,_,_,e⟩|⟨_,_,_,e⟩|⟨_,_,_,_,_,_,_,_,_,e⟩|⟨_,_,_,_,_,_,_,_,_,_,e⟩⟩<;>exact (no e (by intros;simp) (by intros;simp)).elim
  · cases hc
 | convert s d x =>
  simp only [cOp] at hc
  split at hc
  · unfold zni at hc
    (repeat' split at hc)<;>first|(cases hc;done)|(cases hc;exact (no rfl (by intros;simp) (by intros;simp)).elim)
  · cases hc
 | buildSlice t n ps =>
  simp only [cOp] at hc
  exfalso
  split at hc
  · cases hc
  · split at hc
    · split at hc
      · split at hc
        · cases hc
          split at hg<;>rcases hg with ⟨_,_,_,_,_,e⟩|⟨_,_,_,_,_,e⟩<;>cases e
        · split at hc
          · cases hc
            split at hg<;>rcases hg with ⟨_,_,_,_,_,e⟩|⟨_,_,_,_,_,e⟩<;>cases e
          · cases hc
      · cases hc
    · cases hc
 | _ =>
  exfalso
  simp only [cOp] at hc
  first
  | (cases hc;done)
  | ((repeat' split at hc)<;>first|(cases hc;done)|(cases hc;exact no rfl (by intros;simp) (by intros;simp))|(simp only [Option.map_eq_some_iff] at hc;obtain ⟨_,_,e⟩:=hc;exact no e.symm (by intros;simp) (by intros;simp)))
theorem z27 {dst:Option Nat} {ty:TypeId} {op:Op} {sz n:Nat} {zd:D} {ps':List (Nat×AO)} (hc:cOp c dst ty op=some (.mkG sz n zd ps')) :
 ∃ t ps e z,op=.buildSlice t n ps∧c.P.underlying t=some (.slice e)∧tsz c.P e=some sz∧zd0 c.P e=some z∧zd.cells=z∧0<sz∧z.length=sz∧n * sz≤2 ^ 24∧ze5 ps.toList=some ps':=by
 cases op with
 | buildSlice t n' ps =>
  simp only [cOp] at hc
  split at hc
  · cases hc
  · rename_i e he
    have hu:c.P.underlying t=some (.slice e):=by
     unfold ze1 at he
     split at he
     · cases he;assumption
     · cases he
    split at hc
    · rename_i sz' z g ps2 hsz hz hg hps
      split at hc
      · rename_i hcond
        split at hc
        · cases hin:znj c dst with
          | false=>rw [hin] at hc;simp at hc
          | true =>
           rw [hin] at hc
           simp at hc
           obtain ⟨rfl,rfl,rfl,rfl⟩:=hc
           exact ⟨t,ps,e,z,rfl,hu,hsz,hz,rfl,hcond.1,hcond.2.1,hcond.2.2,hps⟩
        · split at hc
          · rename_i z0
            cases hin:znj c dst with
            | false=>rw [hin] at hc;simp at hc
            | true =>
             rw [hin] at hc
             simp at hc
             obtain ⟨rfl,rfl,rfl,rfl⟩:=hc
             obtain ⟨_,_,_,hzo,_⟩:=zb9 (S:=fun _=>none) hz
             exact ⟨t,ps,e,[z0],rfl,hu,hsz,hz,D.cells_one (by simpa using hzo),hcond.1,hcond.2.1,hcond.2.2,hps⟩
          · cases hc
      · cases hc
    · cases hc
 | call cl =>
  obtain ⟨callee,⟨as⟩,⟨ts⟩⟩:=cl
  simp only [cOp] at hc
  cases callee with
  | value f =>
   simp only [zcb] at hc
   split at hc<;>cases hc
  | invoke r m=>simp [zcb] at hc
  | builtin b =>
   cases b<;>simp only [zcb] at hc<;>(repeat' split at hc)<;>first|(cases hc;done)|(split at hc<;>cases hc;done)|(simp at hc;done)|skip
   all_goals (first|(split at hc<;>simp at hc)|simp at hc)
 | unOp u t y=>cases u<;>simp [cOp] at hc;(split at hc<;>simp at hc)
 | makeFunc fn x y =>
  cases fn with
  | func f=>simp only [cOp] at hc;split at hc<;>simp at hc
  | _=>simp [cOp] at hc
 | binOp o t x y u =>
  simp only [cOp] at hc
  split at hc
  · unfold zz7 at hc
    (repeat' split at hc)<;>cases hc
  · cases hc
 | slice t x lo hi mx =>
  simp only [cOp] at hc
  split at hc
  · rcases zdl hc with ⟨_,_,_,_,_,_,e⟩|⟨_,_,_,_,⟨_,_,_,_,_,e⟩|⟨_,_,_,e⟩|⟨_,_,_,_,_,_,_,_,_,e⟩|⟨_,_,_,_,_,_,_,_,_,_,e⟩⟩<;>cases e
  · cases hc
 | convert s d x =>
  simp only [cOp] at hc
  split at hc
  · unfold zni at hc
    (repeat' split at hc)<;>cases hc
  · cases hc
 | _ =>
  exfalso
  simp only [cOp] at hc
  first
  | (cases hc;done)
  | ((repeat' split at hc)<;>first|(cases hc;done)|(simp at hc;done))
end
end Go.E2
namespace Go.E2
section
variable {S:Stb} {ms:List (Nat→Nat)} {ow:Nat→Option Nat} {base:Nat} {O:Nat→Prop} {ρ:Env} {L:Hp} {σ:List Hp} {G:Gh} {a:Act} {w:World} {c:Ctx} {o:Oper}
theorem zfg {P:Program} {t e:TypeId} (h:ze1 P t=some e):P.underlying t=some (.slice e):=by
 unfold ze1 at h
 split at h
 · cases h;assumption
 · cases h
theorem zvy {c:Ctx} {dst:Option Nat} {ty:TypeId} {op:Op} {neg:Bool} {x:AO} (hop:cOp c dst ty op=some (.isnil neg x)) :
 ∃ bop t p q u e,op=.binOp bop t p q u∧cO p=some x∧cO q=some (.c .nilS)∧c.P.underlying t=some (.slice e)∧((bop=.eql∧neg=false)∨(bop=.neq∧neg=true)):=by
 cases op with
 | binOp bop t p q u =>
  simp only [cOp] at hop
  split at hop
  · rename_i p' q' hp hq
    unfold zz7 at hop
    split at hop
    · cases hop
    · cases hop
    · rename_i e hu
      split at hop
      · cases hop;exact ⟨_,_,_,_,_,e,rfl,hp,hq,hu,.inl ⟨rfl,rfl⟩⟩
      · cases hop;exact ⟨_,_,_,_,_,e,rfl,hp,hq,hu,.inr ⟨rfl,rfl⟩⟩
      · cases hop
    · (repeat' split at hop)<;>cases hop
    · (repeat' split at hop)<;>cases hop
    · (repeat' split at hop)<;>cases hop
    · cases hop
  · cases hop
 | call cl =>
  exfalso
  obtain ⟨callee,as,ts⟩:=cl
  cases callee with
  | value f'=>simp only [cOp,zcb] at hop;split at hop<;>cases hop
  | invoke r m=>simp [cOp,zcb] at hop
  | builtin b =>
   cases b<;>simp only [cOp,zcb] at hop<;>(repeat' split at hop)<;>first|(cases hop;done)|(simp at hop;done)|(split at hop<;>cases hop;done)
 | unOp u t y=>cases u<;>simp [cOp] at hop;(split at hop<;>simp at hop)
 | makeFunc fn x y =>
  cases fn with
  | func f=>simp only [cOp] at hop;split at hop<;>simp at hop
  | _=>simp [cOp] at hop
 | slice t x lo hi mx =>
  simp only [cOp] at hop
  split at hop
  · rcases zdl hop with ⟨_,_,_,_,_,_,e⟩|⟨_,_,_,_,⟨_,_,_,_,_,e⟩|⟨_,_,_,e⟩|⟨_,_,_,_,_,_,_,_,_,e⟩|⟨_,_,_,_,_,_,_,_,_,_,e⟩⟩<;>cases e
  · cases hop
 | convert s d x =>
  simp only [cOp] at hop
  split at hop
  · unfold zni at hop
    (repeat' split at hop)<;>cases hop
  · cases hop
 | _ =>
  exfalso
  simp only [cOp] at hop
  first
  | (cases hop;done)
  | ((repeat' split at hop)<;>first|(cases hop;done)|(simp at hop;done)|(split at hop<;>cases hop;done))
theorem zy7 (h:Rel S ms ow base O ρ L σ G a w) {aop:AOp} (hc:cOp c o.dst o.type o.op=some aop) (hold:aop.old=true) (hd:∀ i,o.dst=some i→i<a.tmps.size) {K:St→Prop} (hx:zcd o.dst aop ρ L σ G K) :
 ∃ st,K st∧zdq c.P S ms ow base O σ a w o st:=by
 obtain ⟨m0,hm⟩:=zbj h
 obtain ⟨dst,op,ty,pos,after,guard⟩:=o
 have app:((∃ sz b z x y,aop=.appG sz b z x y)∨∃ sz b z x y,aop=.appZ sz b z x y)→∃ st,K st∧zdq c.P S ms ow base O σ a w ⟨dst,op,ty,pos,after,guard⟩ st:=by
  intro hg
  obtain ⟨as,ts,rfl,hcc⟩:=ztm hc hg
  obtain ⟨x,y,t,u,x',y',e,sz,by_,z,rfl,rfl,hx1,hy1,ht1,hs1,hb1,⟨hz1,hp1,hp2,hzl⟩,hcase⟩:=zfe hcc
  have hut:=zfg ht1
  obtain ⟨i,hi,rfl⟩:=zdp hs1
  have hby:by_=i.bytes:=by unfold tby at hb1;rw [hi] at hb1;simp at hb1;exact hb1.symm
  subst hby
  obtain ⟨zv,_,hzs,hzo,i',hi',hiz⟩:=zb9 (S:=S) hz1
  rw [hi] at hi'
  cases hi'
  have hzsz:zv.cells.size=i.size:=by have:=hzs.1;simp at this;omega
  have hzone:∀ n,∀ v∈(Builtin.zeroCells zv.cells n).toList,v.oneCell'=true:=fun n=>(zef hzs n).one (zgp hzo n)
  have wrap:∀ {st:St} {v:Value} {w':World},(Builtin.append_ #[t,u] ty #[a.eval x,a.eval y]).run c.P w=.ok v w'→Rel S ms ow base O st.1 st.2.1 st.2.2.1 st.2.2.2 (a.put dst v) w'→Evo base O S w S w'→zam σ st.2.2.1 →
   zdq c.P S ms ow base O σ a w ⟨dst,.call { callee:=.builtin .append,args:=⟨[x,y]⟩,argTypes:=⟨[t,u]⟩ },ty,pos,after,guard⟩ st:=by
   intro st v w' h1 h2 h3 h4
   refine ⟨v,w',S,m0,ow,.inl ?_,by rw [← hm];exact h2,h3,h4⟩
   simp only [execOp,resolve,invoke,Sem.run_bind,Sem.run_pure,Result.andThen_ok,Go.builtin,List.map_toArray,List.map_cons,List.map_nil,h1]
  rcases hcase with ⟨hu1,rfl⟩|⟨k,hu1,rfl⟩
  · have huu:zjh c.P u:=hu1.elim (fun h=>.inl ⟨_,zfg h⟩) .inr
    by_cases hin:znj c dst=true
    · rw [if_pos hin] at hx
      simp only [zcd] at hx
      split at hx
      · rename_i xd yd e1 e2
        have hxv:=zc h.tmpT hx1
        rw [e1] at hxv
        have hyv:=(zc h.tmpT hy1).data e2
        split at hx
        · rename_i m ys hvw
          obtain ⟨news,hso,hvn,hon,hyl⟩:=ze0.of_viewS (P:=c.P) h.h hvw hyv
          obtain ⟨st,v,w',k1,k2,k3,k4,k5⟩:=zvx (P:=c.P) (t:=t) (u:=u) (ty:=ty) (e:=e) h hd hi hzs hzo hzsz hp1 hp2 (xv:=a.eval x) (yv:=a.eval y) hxv hvn hon hyl
           (fun b n cap hm0 hxn _ _ _=>by
             subst hm0
             have hn0:news=[]:=List.eq_nil_of_length_eq_zero (by rw [hvn.1,hyl];simp)
             subst hn0
             rw [hxn]
             exact ze4 w t u ty e i hut huu hi none 0 0 (a.eval y) hso (Nat.le_refl _))
           (fun g off n cap cur eb hxg hg hroom hfit=>by
             rw [hxg]
             exact zmn w t u ty e i hut huu hi g off n cap cur eb hg (a.eval y) m news hso (hvn.one hon) hroom hfit)
           (fun b n cap olds hxb hso' hcap h63 hfit=>by
             rw [hxb]
             exact zin w t u ty e i zv hut huu hi hiz b n cap olds hso' (a.eval y) m news hso hcap h63 hfit) hx
          exact ⟨st,k1,wrap k2 k3 k4 k5⟩
        · exact hx.elim
      · exact hx.elim
    · exfalso
      rw [if_neg hin] at hg
      rcases hg with ⟨_,_,_,_,_,e⟩|⟨_,_,_,_,_,e⟩<;>cases e
  · simp only [zcd] at hx
    split at hx
    · rename_i xd k' m e1 e2
      have hxv:=zc h.tmpT hx1
      rw [e1] at hxv
      have hyv:=zc h.tmpT hy1
      rw [e2] at hyv
      obtain ⟨hm0,hmb,hx⟩:=hx
      obtain ⟨m',rfl⟩:∃ m':Nat,m=m':=⟨m.toNat,by omega⟩
      have hyi:a.eval y=.int k' m':=VRD.int_inv hyv
      simp only [Int.toNat_natCast] at hx hmb
      obtain ⟨st,v,w',k1,k2,k3,k4,k5⟩:=zvx (P:=c.P) (t:=t) (u:=u) (ty:=ty) (e:=e) h hd hi hzs hzo hzsz hp1 hp2 (xv:=a.eval x) (yv:=a.eval y) hxv (zef hzs m') (zgp hzo m') (by simp [rep,hzl])
       (fun b n cap hm0 hxn _ _ _=>by
         subst hm0
         rw [hxn,hyi]
         exact zom w t u ty e k i zv hut hu1 hi hiz k')
       (fun g off n cap cur eb hxg hg hroom hfit=>by
         rw [hxg,hyi]
         exact zmo w t u ty e k i zv hut hu1 hi hiz hzsz _ g off n cap rfl cur eb hg k' m' hmb hp2 (hzone m') hroom (by rw [Array.length_toList,zd8,hzsz] at hfit;exact hfit))
       (fun b n cap olds hxb hso' hcap h63 hfit=>by
         rw [hxb,hyi]
         have:=zmp w t u ty e k i zv hut hu1 hi hiz hzsz b n cap olds hso' k' m' hmb hp2 hcap h63 hfit
         simpa using this) hx
      exact ⟨st,k1,wrap k2 k3 k4 k5⟩
    · exact hx.elim
 have other:(∃ st,zk dst aop ρ L σ G=some st∧K st)→∃ st,K st∧zdq c.P S ms ow base O σ a w ⟨dst,op,ty,pos,after,guard⟩ st :=
  fun ⟨st,h1,h2⟩=>⟨st,h2,zmm h hc hd h1⟩
 cases aop with
 | appG sz b z x y=>exact app (.inl ⟨_,_,_,_,_,rfl⟩)
 | appZ sz b z x y=>exact app (.inr ⟨_,_,_,_,_,rfl⟩)
 | mkG sz n zd ps' =>
  obtain ⟨t,ps,e,z,rfl,hut,hsz,hz,hzd,hpos,hzl,hbig,hps⟩:=z27 hc
  simp only [zcd] at hx
  split at hx
  · rename_i vs hvs
    obtain ⟨hok,hK⟩:=hx
    simp only [Bool.and_eq_true] at hok
    obtain ⟨cells,hrun,hv,hall,hlen⟩:=zj9 (P:=c.P) (w:=w) h.tmpT hut hsz hz hzd hpos hzl hbig hps hvs hok.1.1 hok.1.2 hok.2
    have hr:(execOp a.eval ⟨dst,.buildSlice t n ps,ty,pos,after,guard⟩).run c.P w=.ok (.value (.slice (some ⟨w.heap.size,0,none⟩) n n)) (w.alloc (.cells cells e)):=by
     simp only [execOp,Sem.run_bind,hrun,Result.andThen_ok,Sem.run_pure]
    refine ⟨_,hK w.heap.size h.g_none,_,_,S,m0,ow,.inl hr,?_,Evo.alloc h.bas _,zam.refl _⟩
    rw [← hm]
    exact (h.allocG za6 (fun b hb=>zp hb) ⟨cells,e,zab,hv,zg0 hall⟩).put (x:=.d (.gs w.heap.size 0 n n)) (VRD.gs _ _ _ _ (Nat.le_refl _)) (fun _ _ e=>by cases e) hd
  · exact hx.elim
 | isnil neg x =>
  simp only [zcd] at hx
  split at hx
  · rename_i e1
    obtain ⟨bop,t,p,q,u,e,rfl,hp,hq,hu,hop⟩:=zvy hc
    have hq':=zc h.tmpT hq
    have hqv:a.eval q=.slice none 0 0:=VRD.nilS_inv hq'
    have hpd:=(zc h.tmpT hp).data e1
    obtain ⟨b,cap,_,hpv,hsp,hb0,_⟩:=hpd.list_inv'
    have hr:=zi6 (P:=c.P) (w:=w) hu hop b 0 cap p q
    refine ⟨_,hx (if neg then !b.isNone else b.isNone),.bool (if neg then !b.isNone else b.isNone),w,S,m0,ow,.inl ?_,by rw [← hm];exact h.put (x:=.d (.bool _)) (VRD.bool _) (fun _ _ e=>by cases e) hd,Evo.refl _ _ _ _,zam.refl _⟩
    have hpv':a.eval p=.slice b 0 cap:=hpv
    simp only [execOp,Sem.run_bind,Sem.run_pure,hpv',hqv] at hr ⊢
    rw [hr]
    cases neg<;>rfl
  · exact other hx
 | gn k as=>cases hold
 | _=>exact other hx
end
end Go.E2
