/-
 Slices zaw blocks that may change: a row of elements,and room zao it.
 Conditions: none;definitions and laws.
-/
import Derived.Test.YtpplfpnjfjnkdaaGreatDoorEN4
import Derived.Lib.Overlaps
namespace Go.E2
structure Row (sz n cap:Nat) (es cs:List D):Prop where
 len:es.length=n
 all:es.all (zb sz)=true
 fit:n≤cap
 room:cap * sz≤cs.length
 eq:cs.take (n * sz)=flat es
theorem Row.fl {sz n cap:Nat} {es cs:List D} (h:Row sz n cap es cs):(flat es).length=n * sz:=by rw [zw h.all,h.len]
theorem Row.split {sz n cap:Nat} {es cs:List D} (h:Row sz n cap es cs):cs=flat es++cs.drop (n * sz):=by rw [← h.eq,List.take_append_drop]
theorem Row.ncs {sz n cap:Nat} {es cs:List D} (h:Row sz n cap es cs):n * sz≤cs.length:=Nat.le_trans (Nat.mul_le_mul_right _ h.fit) h.room
theorem Row.mk' {sz n cap:Nat} {es rest:List D} (hl:es.length=n) (ha:es.all (zb sz)=true) (hc:n≤cap) (hr:cap * sz≤(flat es++rest).length):Row sz n cap es (flat es++rest) :=
 ⟨hl,ha,hc,hr,by rw [List.take_append_of_le_length (by rw [zw ha,hl];exact Nat.le_refl _),List.take_of_length_le (by rw [zw ha,hl];exact Nat.le_refl _)]⟩
theorem zvh {i n sz:Nat} (h:i<n):i * sz+sz≤n * sz:=by
 have:=Nat.mul_le_mul_right sz (Nat.succ_le_of_lt h)
 rw [Nat.succ_mul] at this;exact this
theorem Row.get {sz n cap:Nat} {es cs:List D} (h:Row sz n cap es cs) {i:Nat} (hi:i<es.length):(cs.drop (i * sz)).take sz=es[i].cells:=by
 have hi':i<n:=h.len▸hi
 have:=zvh (sz:=sz) hi'
 rw [zrm h.all (List.getElem?_eq_getElem hi),← h.eq,List.drop_take,List.take_take]
 congr 1
 omega
theorem Row.get1 {sz n cap:Nat} {es cs:List D} (h:Row sz n cap es cs) {i j:Nat} (hi:i<es.length) (hj:j<sz):(cs.drop (i * sz+j)).head?=es[i].cells[j]?:=by
 rw [← h.get hi,List.getElem?_take_of_lt hj,List.getElem?_drop,List.head?_drop]
theorem Row.fits {sz n cap:Nat} {es cs:List D} (h:Row sz n cap es cs) {i:Nat} (hi:i<es.length):i * sz+sz≤cs.length:=by
 have:=zvh (sz:=sz) (h.len▸hi:i<n)
 have:=h.ncs
 omega
theorem zgm {cs vs:List D} {off:Nat} (h:off+vs.length≤cs.length):(zaw cs vs off).length=cs.length:=by
 simp only [zaw,List.length_append,List.length_take,List.length_drop];omega
theorem zn7 {sz:Nat}:∀ {es:List D} {i:Nat} {x:D},es.all (zb sz)=true→x.cells.length=sz→i<es.length→flat (es.set i x)=zaw (flat es) x.cells (i * sz)
 | e::es,0,x,ha,hx,_=>by
   simp only [List.all_cons,Bool.and_eq_true] at ha
   have he:e.cells.length=sz:=by have:=ha.1;simp [zb] at this;exact this.1
   simp only [List.set_cons_zero,zah,zaw,Nat.zero_mul,List.take_zero,List.nil_append,Nat.zero_add]
   rw [List.drop_append_of_le_length (by omega),List.drop_of_length_le (by omega),List.nil_append]
 | e::es,i+1,x,ha,hx,hi=>by
   simp only [List.all_cons,Bool.and_eq_true] at ha
   have he:e.cells.length=sz:=by have:=ha.1;simp [zb] at this;exact this.1
   have ih:=zn7 (i:=i) ha.2 hx (by simpa using hi)
   simp only [List.set_cons_succ,zah,ih,zaw,Nat.add_mul,Nat.one_mul]
   rw [List.take_append,List.take_of_length_le (by omega:e.cells.length≤i * sz+sz),he,show i * sz+sz - sz=i * sz from by omega]
   rw [List.drop_append,List.drop_of_length_le (by omega:e.cells.length≤i * sz+sz+x.cells.length),List.nil_append,he,show i * sz+sz+x.cells.length - sz=i * sz+x.cells.length from by omega]
   simp [List.append_assoc]
theorem z2v {es:List D} {p:D→Bool} (h:es.all p=true) {i:Nat} {x:D} (hx:p x=true):(es.set i x).all p=true:=by
 rw [List.all_eq_true] at h ⊢
 intro y hy
 rcases List.mem_or_eq_of_mem_set hy with h1|h1
 · exact h y h1
 · subst h1;exact hx
theorem Row.set {sz n cap:Nat} {es cs:List D} (h:Row sz n cap es cs) {i:Nat} (hi:i<es.length) {x:D} (hx:zb sz x=true):Row sz n cap (es.set i x) (zaw cs x.cells (i * sz)):=by
 have hxl:x.cells.length=sz:=by simp [zb] at hx;exact hx.1
 have hf:=h.fits hi
 have hfl:=h.fl
 have hlt:=zvh (sz:=sz) (h.len▸hi:i<n)
 refine ⟨by simpa using h.len,z2v h.all hx,h.fit,by rw [zgm (by omega)];exact h.room,?_⟩
 rw [zn7 h.all hxl hi]
 conv=>lhs;rw [h.split]
 simp only [zaw]
 rw [List.take_append_of_le_length (by rw [hfl];omega:i * sz≤(flat es).length),List.drop_append_of_le_length (by rw [hfl,hxl];omega),← List.append_assoc,List.take_append_of_le_length,List.take_of_length_le]
 · simp only [List.length_append,List.length_take,List.length_drop];omega
 · simp only [List.length_append,List.length_take,List.length_drop];omega
theorem Row.take {sz n cap:Nat} {es cs:List D} (h:Row sz n cap es cs) {m c:Nat} (hm:m≤n) (hmc:m≤c) (hc:c≤cap):Row sz m c (es.take m) cs:=by
 refine ⟨by rw [List.length_take,h.len];omega,zcx h.all m,hmc,Nat.le_trans (Nat.mul_le_mul_right _ hc) h.room,?_⟩
 rw [ze9 m h.all,← h.eq,List.take_take]
 congr 1
 exact (Nat.min_eq_left (Nat.mul_le_mul_right _ hm)).symm
theorem za4 {G:Gh} {sz:Nat} {es:List D} (h:es.all (zb sz)=true):za7 G sz (.list es)=some (es.length,flat es):=by simp only [za7,h,if_true]
theorem Row.view {G:Gh} {sz n cap b:Nat} {es cs:List D} (h:Row sz n cap es cs) (hb:G b=some cs) {i m c:Nat} (_hi:i≤n) (hm:i+m≤n):za7 G sz (.gs b (if c=i then 0 else 0+i * sz) m (c - i))=some (m,flat ((es.drop i).take m))∨(c=i∧m≠0):=by
 have hn:=h.ncs
 have h1:(i+m) * sz≤n * sz:=Nat.mul_le_mul_right _ hm
 rw [Nat.add_mul] at h1
 by_cases hc:c=i
 · by_cases hm0:m=0
   · subst hm0
     left
     simp [za7,hb,hc,flat]
   · exact .inr ⟨hc,hm0⟩
 · left
   have h0:0+i * sz+m * sz≤cs.length:=by omega
   simp only [za7,hb,if_neg hc,h0,if_true]
   congr 2
   rw [ze9 m (zb0 h.all i),zfa i h.all,← h.eq,Nat.zero_add,List.drop_take,List.take_take]
   congr 1
   omega
theorem Row.view0 {G:Gh} {sz n cap b:Nat} {es cs:List D} (h:Row sz n cap es cs) (hb:G b=some cs) {c:Nat}:za7 G sz (.gs b 0 n c)=some (n,flat es):=by
 have:=h.ncs
 have h0:0+n * sz≤cs.length:=by omega
 simp only [za7,hb,h0,if_true,List.drop_zero,h.eq]
section
variable {d:Nat} {sz by_:Nat} {z:List D} {l:List (Nat×AV)} {L:Hp} {σ:List Hp} {G:Gh} {K:St→Prop}
theorem zn8 {olds es2:List D} {n m:Nat} {es:List D} (hz:z.length=sz) (ho:olds=flat es) (hn:es.length=n) (ha:es.all (zb sz)=true) (hm:es2.length=m) (ha2:es2.all (zb sz)=true) (hb:(n+m) * by_≤mostBytes)
 (hK:∀ b cap cs,G b=none→Row sz (n+m) cap (es++es2) cs→K (E ((d,.d (.gs b 0 (n+m) cap))::l),L,σ,G.set b (some cs))):zs0 (some d) sz by_ z olds (flat es2) n m (E l) L σ G K:=by
 refine ⟨hb,fun b cap h1 h2=>hK b cap _ h1 ?_⟩
 subst ho
 have e:flat es++flat es2++rep (cap - (n+m)) z=flat (es++es2)++rep (cap - (n+m)) z:=by rw [zcr]
 rw [e]
 have hall:(es++es2).all (zb sz)=true:=by rw [List.all_append,ha,ha2];rfl
 refine Row.mk' (by simp [hn,hm]) hall h2 ?_
 rw [List.length_append,zw hall,List.length_append,hn,hm]
 have:(rep (cap - (n+m)) z).length=(cap - (n+m)) * sz:=by simp [rep,hz]
 rw [this,← Nat.add_mul]
 exact Nat.mul_le_mul_right _ (by omega)
theorem zys {es2:List D} {m:Nat} (hz:z.length=sz) (hm:es2.length=m) (ha2:es2.all (zb sz)=true) (hb:m * by_≤mostBytes)
 (h0:m=0→K (E ((d,.d .nilS)::l),L,σ,G)) (hK:m≠0→∀ b cap cs,G b=none→Row sz m cap es2 cs→K (E ((d,.d (.gs b 0 m cap))::l),L,σ,G.set b (some cs))):zrj (some d) sz by_ z .nilS m (flat es2) (E l) L σ G K:=by
 simp only [zrj]
 split
 · rename_i e;exact h0 e
 · rename_i e
   refine zn8 (es:=[]) hz (by simp [flat]) rfl rfl hm ha2 (by simpa using hb) ?_
   intro b cap cs h1 h2
   have:=hK e b cap cs h1 (by simpa using h2)
   simpa using this
theorem zyt {b n cap:Nat} {es cs es2:List D} {m:Nat} (hG:G b=some cs) (hr:Row sz n cap es cs) (hz:z.length=sz) (hm:es2.length=m) (ha2:es2.all (zb sz)=true) (hb:(n+m) * by_≤mostBytes)
 (h1:∀ cs',n+m≤cap→Row sz (n+m) cap (es++es2) cs'→K (E ((d,.d (.gs b 0 (n+m) cap))::l),L,σ,G.set b (some cs')))
 (h2:∀ b' cap' cs',cap<n+m→G b'=none→Row sz (n+m) cap' (es++es2) cs'→K (E ((d,.d (.gs b' 0 (n+m) cap'))::l),L,σ,G.set b' (some cs'))):zrj (some d) sz by_ z (.gs b 0 n cap) m (flat es2) (E l) L σ G K:=by
 have hn:=hr.ncs
 have hfl:=hr.fl
 have hall:(es++es2).all (zb sz)=true:=by rw [List.all_append,hr.all,ha2];rfl
 simp only [zrj,hG,Nat.zero_add]
 refine ⟨hn,?_⟩
 split
 · rename_i hc
   have hfit:(n+m) * sz≤cs.length:=Nat.le_trans (Nat.mul_le_mul_right _ hc) hr.room
   refine ⟨hfit,h1 _ hc ⟨by simp [hr.len,hm],hall,hc,?_,?_⟩⟩
   · rw [zgm (by rw [zw ha2,hm,← Nat.add_mul];exact hfit)];exact hr.room
   · simp only [zaw]
     rw [hr.eq,← zcr,List.take_append_of_le_length,List.take_of_length_le]
     · rw [zw hall,List.length_append,hr.len,hm];exact Nat.le_refl _
     · rw [zw hall,List.length_append,hr.len,hm];exact Nat.le_refl _
 · rename_i hc
   rw [List.drop_zero,hr.eq]
   exact zn8 hz rfl hr.len hr.all hm ha2 hb fun b' cap' cs' q1 q2=>h2 b' cap' cs' (by omega) q1 q2
end
section
variable {P:Program} {os:List AI} {l:List (Nat×AV)} {L:Hp} {σ:List Hp} {G:Gh} {K:St→Prop}
def wA (x:AV) (y:Option D) {k:D→D→Prop} (_:zm k):Prop:=∃ u v,x=.d u∧y=some v∧k u v
@[go_sem] theorem wA_mk (u v:D) {k:D→D→Prop} (h:zm k):wA (.d u) (some v) h=k u v:=by simp [wA]
def z0v (d:Option Nat) (sz by_:Nat) (z:List D) (x y:D) (ρ:Env) (L:Hp) (σ:List Hp) (G:Gh) {K:St→Prop} (_:zm K):Prop:=match zne G sz y with|some (m,ys)=>zrj d sz by_ z x m ys ρ L σ G K|none=>False
theorem zvi {d:Option Nat} {sz by_:Nat} {z:List D} {x y:D} {ρ:Env} {m:Nat} {ys:List D} {hk:zm K} (h:za7 G sz y=some (m,ys)) (hK:zrj d sz by_ z x m ys ρ L σ G K):z0v d sz by_ z x y ρ L σ G hk:=by unfold z0v;rw [zri h];exact hK
@[go_sem ↓] theorem z7k {d:Nat} {sz b:Nat} {z:List D} {x y:AO}:zac P (⟨some d,.appG sz b z x y,none⟩::os) (E l) L σ G K=wA (ev (E l) x) (ev (E l) y).data (zm.mk (a:=fun u v=>z0v (some d) sz b z u v (E l) L σ G (zm.mk (a:=fun st=>zac P os st.1 st.2.1 st.2.2.1 st.2.2.2 K)))):=by
  simp only [zac,zag,zax,zcd,wA,z0v,eq_iff_iff]
  generalize ev (E l) x=u
  generalize (ev (E l) y).data=v
  cases u<;>cases v<;>simp<;>exact Iff.rfl
def appN (d:Option Nat) (sz by_:Nat) (z:List D) (x n:D) (ρ:Env) (L:Hp) (σ:List Hp) (G:Gh) {K:St→Prop} (_:zm K):Prop:=∃ k m,n=.int k m∧0≤m∧m.toNat * by_≤mostBytes∧zrj d sz by_ z x m.toNat (rep m.toNat z) ρ L σ G K
@[go_sem ↓] theorem z7l {d:Nat} {sz b:Nat} {z:List D} {x n:AO}:zac P (⟨some d,.appZ sz b z x n,none⟩::os) (E l) L σ G K=wA (ev (E l) x) (ev (E l) n).data (zm.mk (a:=fun u v=>appN (some d) sz b z u v (E l) L σ G (zm.mk (a:=fun st=>zac P os st.1 st.2.1 st.2.2.1 st.2.2.2 K)))):=by
  simp only [zac,zag,zax,zcd,wA,appN,eq_iff_iff]
  generalize ev (E l) x=u
  generalize ev (E l) n=v
  cases u with
  | d u =>
   cases v with
   | d v =>
    cases v with
    | int k m =>
     refine ⟨fun ⟨h1,h2,h3⟩=>⟨_,_,rfl,rfl,k,m,rfl,h1,h2,h3⟩,?_⟩
     rintro ⟨u',v',e1,e2,k',m',e3,h1,h2,h3⟩
     cases e1;cases e2;cases e3
     exact ⟨h1,h2,h3⟩
    | _=>simp [AV.data]
   | own s es=>simp [AV.data]
   | _=>simp [AV.data]
  | _=>simp
def z2w {k:Nat→Prop} (_:zm k) (G:Gh):Prop:=∀ b,G b=none→k b
theorem zq {k:Nat→Prop} {h:zm k} {G:Gh} (hk:∀ b,G b=none→k b):z2w h G:=hk
@[go_sem ↓] theorem regW_mkG {d:Nat} {sz n:Nat} {z:D} {ps:List (Nat×AO)}:zac P (⟨some d,.mkG sz n z ps,none⟩::os) (E l) L σ G K=wB (zy (E l) (ps.map (·.2))) (zm.mk (a:=fun vs=>wT (vs.all (zb sz) && zb sz z && (ps.all fun p=>p.1<n)) (zm.mk (a:=wL ((ps.zip vs).foldl (fun es (p,v)=>es.set p.1 v) (List.replicate n z)) (zm.mk (a:=fun es=>z2w (zm.mk (a:=fun b=>zac P os (E ((d,.d (.gs b 0 n n))::l)) L σ (G.set b (some (flat es))) K)) G)))))):=by
  simp only [zac,zag,zax,zcd,wB,wT,wL,z2w,eq_iff_iff]
  cases zy (E l) (ps.map (·.2)) with
  | none=>simp
  | some vs=>simp [ztf]
def wCp (sz:Nat) (x:AV) (y:Option D) (G:Gh) {k:Int→Gh→Prop} (_:zm k):Prop :=
 ∃ b off len cap v cs m ys,x=.d (.gs b off len cap)∧y=some v∧G b=some cs∧za7 G sz v=some (m,ys)∧off+len * sz≤cs.length∧k (min (len:Int) (m:Int)) (G.set b (some (zaw cs (ys.take (min len m * sz)) off)))
theorem ziu {sz b off len cap m:Nat} {v:D} {cs ys:List D} {k:Int→Gh→Prop} {h:zm k} (hb:G b=some cs) (hv:za7 G sz v=some (m,ys)) (hf:off+len * sz≤cs.length) (hk:k (min (len:Int) (m:Int)) (G.set b (some (zaw cs (ys.take (min len m * sz)) off)))):wCp sz (.d (.gs b off len cap)) (some v) G h :=
 ⟨b,off,len,cap,v,cs,m,ys,rfl,rfl,hb,hv,hf,hk⟩
@[go_sem ↓] theorem z7m {d:Option Nat} {sz:Nat} {x y:AO}:zac P (⟨d,.copy sz x y,none⟩::os) (E l) L σ G K=wCp sz (ev (E l) x) (ev (E l) y).data G (zm.mk (a:=fun m G'=>zac P os (put (E l) d (.d (.int .i64 m))) L σ G' K)):=by
  rw [zep (fun _=>rfl)]
  simp only [zk,wCp,eq_iff_iff]
  generalize ev (E l) x=u
  generalize (ev (E l) y).data=v
  constructor
  · rintro ⟨st,h,hk⟩
    split at h
    · split at h
      · split at h
        · rename_i h1 h2 h3
          cases h
          exact ⟨_,_,_,_,_,_,_,_,rfl,rfl,h1,h2,h3,hk⟩
        · cases h
      · cases h
    · cases h
  · rintro ⟨b,off,len,cap,v,cs,m,ys,rfl,rfl,h1,h2,h3,hk⟩
    exact ⟨_,by simp only [h1,h2,h3,if_true];rfl,hk⟩
end
theorem Row.copy {sz n cap:Nat} {es cs ys:List D} (h:Row sz n cap es cs) {i:Nat} (hy:ys.all (zb sz)=true) (hi:i+ys.length≤n):Row sz n cap (es.take i++ys++es.drop (i+ys.length)) (zaw cs (flat ys) (i * sz)):=by
 have hfl:=h.fl
 have hyl:=zw hy
 have hn:=h.ncs
 have hm:(i+ys.length) * sz≤n * sz:=Nat.mul_le_mul_right _ hi
 have hm':=hm
 rw [Nat.add_mul] at hm'
 have hall:(es.take i++ys++es.drop (i+ys.length)).all (zb sz)=true:=by rw [List.all_append,List.all_append,zcx h.all,hy,zb0 h.all];rfl
 have hlen:(es.take i++ys++es.drop (i+ys.length)).length=n:=by simp only [List.length_append,List.length_take,List.length_drop,h.len];omega
 refine ⟨hlen,hall,h.fit,by rw [zgm (by rw [hyl];omega)];exact h.room,?_⟩
 have e:flat (es.take i++ys++es.drop (i+ys.length))=zaw (flat es) (flat ys) (i * sz):=by
  simp only [zcr,zaw,ze9 i h.all,zfa _ h.all,hyl,Nat.add_mul]
 rw [e]
 conv=>lhs;rw [h.split]
 simp only [zaw]
 rw [List.take_append_of_le_length (by rw [hfl];omega:i * sz≤(flat es).length),List.drop_append_of_le_length (by rw [hfl,hyl];omega),← List.append_assoc,List.take_append_of_le_length,List.take_of_length_le]
 · simp only [List.length_append,List.length_take,List.length_drop];omega
 · simp only [List.length_append,List.length_take,List.length_drop];omega
end Go.E2
