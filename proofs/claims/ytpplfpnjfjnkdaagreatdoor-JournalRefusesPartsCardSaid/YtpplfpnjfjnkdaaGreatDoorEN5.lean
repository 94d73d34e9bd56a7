/-
 Slices zau blocks that may change: a row of elements,and room zz it.
 Conditions: none;definitions and laws.
-/
import Derived.Test.YtpplfpnjfjnkdaaGreatDoorEN4
import Derived.Lib.Overlaps
set_option linter.unusedSimpArgs false
namespace Go.E2
structure Row (sz n cap:Nat) (es cs:List D):Prop where
 len:es.length=n
 all:es.all (ze sz)=true
 fit:n≤cap
 room:cap * sz≤cs.length
 eq:cs.take (n * sz)=flat es
theorem Row.fl {sz n cap:Nat} {es cs:List D} (h:Row sz n cap es cs):(flat es).length=n * sz:=by rw [zy h.all,h.len]
theorem Row.split {sz n cap:Nat} {es cs:List D} (h:Row sz n cap es cs):cs=flat es++cs.drop (n * sz):=by rw [← h.eq,List.take_append_drop]
theorem Row.ncs {sz n cap:Nat} {es cs:List D} (h:Row sz n cap es cs):n * sz≤cs.length:=Nat.le_trans (Nat.mul_le_mul_right _ h.fit) h.room
theorem Row.mk' {sz n cap:Nat} {es rest:List D} (hl:es.length=n) (ha:es.all (ze sz)=true) (hc:n≤cap) (hr:cap * sz≤(flat es++rest).length):Row sz n cap es (flat es++rest) :=
 ⟨hl,ha,hc,hr,by rw [List.take_append_of_le_length (by rw [zy ha,hl];exact Nat.le_refl _),yk1Q (by rw [zy ha,hl];exact Nat.le_refl _)]⟩
theorem zvv {i n sz:Nat} (h:i<n):i * sz+sz≤n * sz:=by
 have:=Nat.mul_le_mul_right sz (Nat.succ_le_of_lt h)
 rw [Nat.succ_mul] at this;exact this
theorem Row.get {sz n cap:Nat} {es cs:List D} (h:Row sz n cap es cs) {i:Nat} (hi:i<es.length):(cs.drop (i * sz)).take sz=es[i].cells:=by
 have hi':i<n:=h.len▸hi
 have:=zvv (sz:=sz) hi'
 rw [zrj h.all (yliQ hi),← h.eq,List.drop_take,List.take_take]
 congr 1
 omega
theorem Row.get1 {sz n cap:Nat} {es cs:List D} (h:Row sz n cap es cs) {i j:Nat} (hi:i<es.length) (hj:j<sz):(cs.drop (i * sz+j)).head?=es[i].cells[j]?:=by
 rw [← h.get hi,List.getElem?_take_of_lt hj,List.getElem?_drop,List.head?_drop]
theorem Row.fits {sz n cap:Nat} {es cs:List D} (h:Row sz n cap es cs) {i:Nat} (hi:i<es.length):i * sz+sz≤cs.length:=by
 have:=zvv (sz:=sz) (h.len▸hi:i<n)
 have:=h.ncs
 omega
theorem zgx {cs vs:List D} {off:Nat} (h:off+vs.length≤cs.length):(zau cs vs off).length=cs.length:=by
 simp only [zau,yk2Q,yk4Q,ylfQ];omega
theorem zoe {sz:Nat}:∀ {es:List D} {i:Nat} {x:D},es.all (ze sz)=true→x.cells.length=sz→i<es.length→flat (es.set i x)=zau (flat es) x.cells (i * sz)
 | e::es,0,x,ha,hx,_=>by
   simp only [List.all_cons,yk9Q] at ha
   have he:e.cells.length=sz:=by have:=ha.1;simp [ze] at this;exact this.1
   simp only [List.set_cons_zero,zan,zau,Nat.zero_mul,List.take_zero,List.nil_append,yltQ]
   rw [List.drop_append_of_le_length (by omega),yk7Q (by omega),List.nil_append]
 | e::es,i+1,x,ha,hx,hi=>by
   simp only [List.all_cons,yk9Q] at ha
   have he:e.cells.length=sz:=by have:=ha.1;simp [ze] at this;exact this.1
   have ih:=zoe (i:=i) ha.2 hx (by simpa using hi)
   simp only [List.set_cons_succ,zan,ih,zau,ylrQ,Nat.one_mul]
   rw [List.take_append,yk1Q (by omega:e.cells.length≤i * sz+sz),he,show i * sz+sz - sz=i * sz from by omega]
   rw [List.drop_append,yk7Q (by omega:e.cells.length≤i * sz+sz+x.cells.length),List.nil_append,he,show i * sz+sz+x.cells.length - sz=i * sz+x.cells.length from by omega]
   simp [yk5Q]
theorem z3h {es:List D} {p:D→Bool} (h:es.all p=true) {i:Nat} {x:D} (hx:p x=true):(es.set i x).all p=true:=by
 rw [ylbQ] at h ⊢
 intro y hy
 rcases List.mem_or_eq_of_mem_set hy with h1|h1
 · exact h y h1
 · subst h1;exact hx
theorem Row.set {sz n cap:Nat} {es cs:List D} (h:Row sz n cap es cs) {i:Nat} (hi:i<es.length) {x:D} (hx:ze sz x=true):Row sz n cap (es.set i x) (zau cs x.cells (i * sz)):=by
 have hxl:x.cells.length=sz:=by simp [ze] at hx;exact hx.1
 have hf:=h.fits hi
 have hfl:=h.fl
 have hlt:=zvv (sz:=sz) (h.len▸hi:i<n)
 refine ⟨by simpa using h.len,z3h h.all hx,h.fit,by rw [zgx (by omega)];exact h.room,?_⟩
 rw [zoe h.all hxl hi]
 conv=>lhs;rw [h.split]
 simp only [zau]
 rw [List.take_append_of_le_length (by rw [hfl];omega:i * sz≤(flat es).length),List.drop_append_of_le_length (by rw [hfl,hxl];omega),← yk5Q,List.take_append_of_le_length,yk1Q]
 · simp only [yk2Q,yk4Q,ylfQ];omega
 · simp only [yk2Q,yk4Q,ylfQ];omega
theorem zba {G:Gh} {sz:Nat} {es:List D} (h:es.all (ze sz)=true):zbn G sz (.list es)=some (es.length,flat es):=by simp only [zbn,h,if_true]
theorem Row.view0 {G:Gh} {sz n cap b:Nat} {es cs:List D} (h:Row sz n cap es cs) (hb:G b=some cs) {c:Nat}:zbn G sz (.gs b 0 n c)=some (n,flat es):=by
 have:=h.ncs
 have h0:0+n * sz≤cs.length:=by omega
 simp only [zbn,hb,h0,if_true,List.drop_zero,h.eq]
section
variable {d:Nat} {sz by_:Nat} {z:List D} {l:List (Nat×AV)} {L:Hp} {σ:List Hp} {G:Gh} {K:St→Prop}
theorem zof {olds es2:List D} {n m:Nat} {es:List D} (hz:z.length=sz) (ho:olds=flat es) (hn:es.length=n) (ha:es.all (ze sz)=true) (hm:es2.length=m) (ha2:es2.all (ze sz)=true) (hb:(n+m) * by_≤mostBytes)
 (hK:∀ b cap cs,G b=none→Row sz (n+m) cap (es++es2) cs→K (E ((d,.d (.gs b 0 (n+m) cap))::l),L,σ,G.set b (some cs))):zs4 (some d) sz by_ z olds (flat es2) n m (E l) L σ G K:=by
 refine ⟨hb,fun b cap h1 h2=>hK b cap _ h1 ?_⟩
 subst ho
 have e:flat es++flat es2++rep (cap - (n+m)) z=flat (es++es2)++rep (cap - (n+m)) z:=by rw [zdy]
 rw [e]
 have hall:(es++es2).all (ze sz)=true:=by rw [ylmQ,ha,ha2];rfl
 refine Row.mk' (by simp [hn,hm]) hall h2 ?_
 rw [yk2Q,zy hall,yk2Q,hn,hm]
 have:(rep (cap - (n+m)) z).length=(cap - (n+m)) * sz:=by simp [rep,hz]
 rw [this,← ylrQ]
 exact Nat.mul_le_mul_right _ (by omega)
theorem zzd {es2:List D} {m:Nat} (hz:z.length=sz) (hm:es2.length=m) (ha2:es2.all (ze sz)=true) (hb:m * by_≤mostBytes)
 (h0:m=0→K (E ((d,.d .nilS)::l),L,σ,G)) (hK:m≠0→∀ b cap cs,G b=none→Row sz m cap es2 cs→K (E ((d,.d (.gs b 0 m cap))::l),L,σ,G.set b (some cs))):zs5 (some d) sz by_ z .nilS m (flat es2) (E l) L σ G K:=by
 simp only [zs5]
 split
 · rename_i e;exact h0 e
 · rename_i e
   refine zof (es:=[]) hz (by simp [flat]) rfl rfl hm ha2 (by simpa using hb) ?_
   intro b cap cs h1 h2
   have:=hK e b cap cs h1 (by simpa using h2)
   simpa using this
theorem zze {b n cap:Nat} {es cs es2:List D} {m:Nat} (hG:G b=some cs) (hr:Row sz n cap es cs) (hz:z.length=sz) (hm:es2.length=m) (ha2:es2.all (ze sz)=true) (hb:(n+m) * by_≤mostBytes)
 (h1:∀ cs',n+m≤cap→Row sz (n+m) cap (es++es2) cs'→K (E ((d,.d (.gs b 0 (n+m) cap))::l),L,σ,G.set b (some cs')))
 (h2:∀ b' cap' cs',cap<n+m→G b'=none→Row sz (n+m) cap' (es++es2) cs'→K (E ((d,.d (.gs b' 0 (n+m) cap'))::l),L,σ,G.set b' (some cs'))):zs5 (some d) sz by_ z (.gs b 0 n cap) m (flat es2) (E l) L σ G K:=by
 have hn:=hr.ncs
 have hfl:=hr.fl
 have hall:(es++es2).all (ze sz)=true:=by rw [ylmQ,hr.all,ha2];rfl
 simp only [zs5,hG,yltQ]
 refine ⟨hn,?_⟩
 split
 · rename_i hc
   have hfit:(n+m) * sz≤cs.length:=Nat.le_trans (Nat.mul_le_mul_right _ hc) hr.room
   refine ⟨hfit,h1 _ hc ⟨by simp [hr.len,hm],hall,hc,?_,?_⟩⟩
   · rw [zgx (by rw [zy ha2,hm,← ylrQ];exact hfit)];exact hr.room
   · simp only [zau]
     rw [hr.eq,← zdy,List.take_append_of_le_length,yk1Q]
     · rw [zy hall,yk2Q,hr.len,hm];exact Nat.le_refl _
     · rw [zy hall,yk2Q,hr.len,hm];exact Nat.le_refl _
 · rename_i hc
   rw [List.drop_zero,hr.eq]
   exact zof hz rfl hr.len hr.all hm ha2 hb fun b' cap' cs' q1 q2=>h2 b' cap' cs' (by omega) q1 q2
end
section
variable {P:Program} {os:List AI} {l:List (Nat×AV)} {L:Hp} {σ:List Hp} {G:Gh} {K:St→Prop}
def wA (x:AV) (y:Option D) {k:D→D→Prop} (_:zp k):Prop:=∃ u v,x=.d u∧y=some v∧k u v
@[go_sem] theorem wA_mk (u v:D) {k:D→D→Prop} (h:zp k):wA (.d u) (some v) h=k u v:=by simp [wA]
def z1l (d:Option Nat) (sz by_:Nat) (z:List D) (x y:D) (ρ:Env) (L:Hp) (σ:List Hp) (G:Gh) {K:St→Prop} (_:zp K):Prop:=match zns G sz y with|some (m,ys)=>zs5 d sz by_ z x m ys ρ L σ G K|none=>False
theorem zvw {d:Option Nat} {sz by_:Nat} {z:List D} {x y:D} {ρ:Env} {m:Nat} {ys:List D} {hk:zp K} (h:zbn G sz y=some (m,ys)) (hK:zs5 d sz by_ z x m ys ρ L σ G K):z1l d sz by_ z x y ρ L σ G hk:=by unfold z1l;rw [zrg h];exact hK
@[go_sem ↓] theorem z71 {d:Nat} {sz b:Nat} {z:List D} {x y:AO}:zaw P (⟨some d,.appG sz b z x y,none⟩::os) (E l) L σ G K=wA (ev (E l) x) (ev (E l) y).data (zp.mk (a:=fun u v=>z1l (some d) sz b z u v (E l) L σ G (zp.mk (a:=fun st=>zaw P os st.1 st.2.1 st.2.2.1 st.2.2.2 K)))):=by
  simp only [zaw,zaj,za5,zci,wA,z1l,eq_iff_iff]
  generalize ev (E l) x=u
  generalize (ev (E l) y).data=v
  cases u<;>cases v<;>simp<;>exact Iff.rfl
def z3i {k:Nat→Prop} (_:zp k) (G:Gh):Prop:=∀ b,G b=none→k b
theorem zx {k:Nat→Prop} {h:zp k} {G:Gh} (hk:∀ b,G b=none→k b):z3i h G:=hk
@[go_sem ↓] theorem regW_mkG {d:Nat} {sz n:Nat} {z:D} {ps:List (Nat×AO)}:zaw P (⟨some d,.mkG sz n z ps,none⟩::os) (E l) L σ G K=wB (z6 (E l) (ps.map (·.2))) (zp.mk (a:=fun vs=>wT (vs.all (ze sz) && ze sz z && (ps.all fun p=>p.1<n)) (zp.mk (a:=wL ((ps.zip vs).foldl (fun es (p,v)=>es.set p.1 v) (List.replicate n z)) (zp.mk (a:=fun es=>z3i (zp.mk (a:=fun b=>zaw P os (E ((d,.d (.gs b 0 n n))::l)) L σ (G.set b (some (flat es))) K)) G)))))):=by
  simp only [zaw,zaj,za5,zci,wB,wT,wL,z3i,eq_iff_iff]
  cases z6 (E l) (ps.map (·.2)) with
  | none=>simp
  | some vs=>simp [ztm]
def wCp (sz:Nat) (x:AV) (y:Option D) (G:Gh) {k:Int→Gh→Prop} (_:zp k):Prop :=
 ∃ b off len cap v cs m ys,x=.d (.gs b off len cap)∧y=some v∧G b=some cs∧zbn G sz v=some (m,ys)∧off+len * sz≤cs.length∧k (min (len:Int) (m:Int)) (G.set b (some (zau cs (ys.take (min len m * sz)) off)))
theorem zi4 {sz b off len cap m:Nat} {v:D} {cs ys:List D} {k:Int→Gh→Prop} {h:zp k} (hb:G b=some cs) (hv:zbn G sz v=some (m,ys)) (hf:off+len * sz≤cs.length) (hk:k (min (len:Int) (m:Int)) (G.set b (some (zau cs (ys.take (min len m * sz)) off)))):wCp sz (.d (.gs b off len cap)) (some v) G h :=
 ⟨b,off,len,cap,v,cs,m,ys,rfl,rfl,hb,hv,hf,hk⟩
@[go_sem ↓] theorem z72 {d:Option Nat} {sz:Nat} {x y:AO}:zaw P (⟨d,.copy sz x y,none⟩::os) (E l) L σ G K=wCp sz (ev (E l) x) (ev (E l) y).data G (zp.mk (a:=fun m G'=>zaw P os (put (E l) d (.d (.int .i64 m))) L σ G' K)):=by
  rw [zej (fun _=>rfl)]
  simp only [zk,wCp,eq_iff_iff]
  generalize ev (E l) x=u
  generalize (ev (E l) y).data=v
  constructor
  · rintro ⟨st,h,hk⟩
    split at h
    · split at h
      · split at h
        · rename_i h1 h2 h3
          cases h
          exact ⟨_,_,_,_,_,_,_,_,rfl,rfl,h1,h2,h3,hk⟩
        · cases h
      · cases h
    · cases h
  · rintro ⟨b,off,len,cap,v,cs,m,ys,rfl,rfl,h1,h2,h3,hk⟩
    exact ⟨_,by simp only [h1,h2,h3,if_true];rfl,hk⟩
end
theorem Row.copy {sz n cap:Nat} {es cs ys:List D} (h:Row sz n cap es cs) {i:Nat} (hy:ys.all (ze sz)=true) (hi:i+ys.length≤n):Row sz n cap (es.take i++ys++es.drop (i+ys.length)) (zau cs (flat ys) (i * sz)):=by
 have hfl:=h.fl
 have hyl:=zy hy
 have hn:=h.ncs
 have hm:(i+ys.length) * sz≤n * sz:=Nat.mul_le_mul_right _ hi
 have hm':=hm
 rw [ylrQ] at hm'
 have hall:(es.take i++ys++es.drop (i+ys.length)).all (ze sz)=true:=by rw [ylmQ,ylmQ,zdk h.all,hy,zcc h.all];rfl
 have hlen:(es.take i++ys++es.drop (i+ys.length)).length=n:=by simp only [yk2Q,yk4Q,ylfQ,h.len];omega
 refine ⟨hlen,hall,h.fit,by rw [zgx (by rw [hyl];omega)];exact h.room,?_⟩
 have e:flat (es.take i++ys++es.drop (i+ys.length))=zau (flat es) (flat ys) (i * sz):=by
  simp only [zdy,zau,zjy i h.all,zhd _ h.all,hyl,ylrQ]
 rw [e]
 conv=>lhs;rw [h.split]
 simp only [zau]
 rw [List.take_append_of_le_length (by rw [hfl];omega:i * sz≤(flat es).length),List.drop_append_of_le_length (by rw [hfl,hyl];omega),← yk5Q,List.take_append_of_le_length,yk1Q]
 · simp only [yk2Q,yk4Q,ylfQ];omega
 · simp only [yk2Q,yk4Q,ylfQ];omega
