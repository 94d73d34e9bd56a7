/-
 Slices zbe blocks that may change: a row of elements,and room behind it.
 Conditions: none;definitions and laws.
-/
import Derived.Test.YtailhmffljoojaaEN4
import Derived.Lib.Overlaps
namespace Go.E2
structure Row (sz n cap:Nat) (es cs:List D):Prop where
 len:es.length=n
 all:es.all (za sz)=true
 fit:n≤cap
 room:cap * sz≤cs.length
 eq:cs.take (n * sz)=flat es
theorem Row.fl {sz n cap:Nat} {es cs:List D} (h:Row sz n cap es cs):(flat es).length=n * sz:=by rw [zo h.all,h.len]
theorem Row.split {sz n cap:Nat} {es cs:List D} (h:Row sz n cap es cs):cs=flat es++cs.drop (n * sz):=by rw [← h.eq,List.take_append_drop]
theorem Row.ncs {sz n cap:Nat} {es cs:List D} (h:Row sz n cap es cs):n * sz≤cs.length:=Nat.le_trans (Nat.mul_le_mul_right _ h.fit) h.room
theorem Row.mk' {sz n cap:Nat} {es rest:List D} (hl:es.length=n) (ha:es.all (za sz)=true) (hc:n≤cap) (hr:cap * sz≤(flat es++rest).length):Row sz n cap es (flat es++rest) :=
 ⟨hl,ha,hc,hr,by rw [List.take_append_of_le_length (by rw [zo ha,hl];exact Nat.le_refl _),List.take_of_length_le (by rw [zo ha,hl];exact Nat.le_refl _)]⟩
theorem zqq {i n sz:Nat} (h:i<n):i * sz+sz≤n * sz:=by
 have:=Nat.mul_le_mul_right sz (Nat.succ_le_of_lt h)
 rw [Nat.succ_mul] at this;exact this
theorem Row.get {sz n cap:Nat} {es cs:List D} (h:Row sz n cap es cs) {i:Nat} (hi:i<es.length):(cs.drop (i * sz)).take sz=es[i].cells:=by
 have hi':i<n:=h.len▸hi
 have:=zqq (sz:=sz) hi'
 rw [znk h.all (List.getElem?_eq_getElem hi),← h.eq,List.drop_take,List.take_take]
 congr 1
 omega
theorem Row.get1 {sz n cap:Nat} {es cs:List D} (h:Row sz n cap es cs) {i j:Nat} (hi:i<es.length) (hj:j<sz):(cs.drop (i * sz+j)).head?=es[i].cells[j]?:=by
 rw [← h.get hi,List.getElem?_take_of_lt hj,List.getElem?_drop,List.head?_drop]
theorem Row.fits {sz n cap:Nat} {es cs:List D} (h:Row sz n cap es cs) {i:Nat} (hi:i<es.length):i * sz+sz≤cs.length:=by
 have:=zqq (sz:=sz) (h.len▸hi:i<n)
 have:=h.ncs
 omega
theorem zfn {cs vs:List D} {off:Nat} (h:off+vs.length≤cs.length):(zbe cs vs off).length=cs.length:=by
 simp only [zbe,List.length_append,List.length_take,List.length_drop];omega
theorem zlj {sz:Nat}:∀ {es:List D} {i:Nat} {x:D},es.all (za sz)=true→x.cells.length=sz→i<es.length→flat (es.set i x)=zbe (flat es) x.cells (i * sz)
 | e::es,0,x,ha,hx,_=>by
   simp only [List.all_cons,Bool.and_eq_true] at ha
   have he:e.cells.length=sz:=by have:=ha.1;simp [za] at this;exact this.1
   simp only [List.set_cons_zero,zw,zbe,Nat.zero_mul,List.take_zero,List.nil_append,Nat.zero_add]
   rw [List.drop_append_of_le_length (by omega),List.drop_of_length_le (by omega),List.nil_append]
 | e::es,i+1,x,ha,hx,hi=>by
   simp only [List.all_cons,Bool.and_eq_true] at ha
   have he:e.cells.length=sz:=by have:=ha.1;simp [za] at this;exact this.1
   have ih:=zlj (i:=i) ha.2 hx (by simpa using hi)
   simp only [List.set_cons_succ,zw,ih,zbe,Nat.add_mul,Nat.one_mul]
   rw [List.take_append,List.take_of_length_le (by omega:e.cells.length≤i * sz+sz),he,show i * sz+sz - sz=i * sz from by omega]
   rw [List.drop_append,List.drop_of_length_le (by omega:e.cells.length≤i * sz+sz+x.cells.length),List.nil_append,he,show i * sz+sz+x.cells.length - sz=i * sz+x.cells.length from by omega]
   simp [List.append_assoc]
theorem zwl {es:List D} {p:D→Bool} (h:es.all p=true) {i:Nat} {x:D} (hx:p x=true):(es.set i x).all p=true:=by
 rw [List.all_eq_true] at h ⊢
 intro y hy
 rcases List.mem_or_eq_of_mem_set hy with h1|h1
 · exact h y h1
 · subst h1;exact hx
theorem Row.set {sz n cap:Nat} {es cs:List D} (h:Row sz n cap es cs) {i:Nat} (hi:i<es.length) {x:D} (hx:za sz x=true):Row sz n cap (es.set i x) (zbe cs x.cells (i * sz)):=by
 have hxl:x.cells.length=sz:=by simp [za] at hx;exact hx.1
 have hf:=h.fits hi
 have hfl:=h.fl
 have hlt:=zqq (sz:=sz) (h.len▸hi:i<n)
 refine ⟨by simpa using h.len,zwl h.all hx,h.fit,by rw [zfn (by omega)];exact h.room,?_⟩
 rw [zlj h.all hxl hi]
 conv=>lhs;rw [h.split]
 simp only [zbe]
 rw [List.take_append_of_le_length (by rw [hfl];omega:i * sz≤(flat es).length),List.drop_append_of_le_length (by rw [hfl,hxl];omega),← List.append_assoc,List.take_append_of_le_length,List.take_of_length_le]
 · simp only [List.length_append,List.length_take,List.length_drop];omega
 · simp only [List.length_append,List.length_take,List.length_drop];omega
theorem Row.take {sz n cap:Nat} {es cs:List D} (h:Row sz n cap es cs) {m c:Nat} (hm:m≤n) (hmc:m≤c) (hc:c≤cap):Row sz m c (es.take m) cs:=by
 refine ⟨by rw [List.length_take,h.len];omega,zci h.all m,hmc,Nat.le_trans (Nat.mul_le_mul_right _ hc) h.room,?_⟩
 rw [zek m h.all,← h.eq,List.take_take]
 congr 1
 exact (Nat.min_eq_left (Nat.mul_le_mul_right _ hm)).symm
theorem zcb {G:Gh} {sz:Nat} {es:List D} (h:es.all (za sz)=true):zbc G sz (.list es)=some (es.length,flat es):=by simp only [zbc,h,if_true]
theorem Row.view {G:Gh} {sz n cap b:Nat} {es cs:List D} (h:Row sz n cap es cs) (hb:G b=some cs) {i m c:Nat} (_hi:i≤n) (hm:i+m≤n):zbc G sz (.gs b (if c=i then 0 else 0+i * sz) m (c - i))=some (m,flat ((es.drop i).take m))∨(c=i∧m≠0):=by
 have hn:=h.ncs
 have h1:(i+m) * sz≤n * sz:=Nat.mul_le_mul_right _ hm
 rw [Nat.add_mul] at h1
 by_cases hc:c=i
 · by_cases hm0:m=0
   · subst hm0
     left
     simp [zbc,hb,hc,flat]
   · exact .inr ⟨hc,hm0⟩
 · left
   have h0:0+i * sz+m * sz≤cs.length:=by omega
   simp only [zbc,hb,if_neg hc,h0,if_true]
   congr 2
   rw [zek m (zbj h.all i),zdq i h.all,← h.eq,Nat.zero_add,List.drop_take,List.take_take]
   congr 1
   omega
theorem Row.view0 {G:Gh} {sz n cap b:Nat} {es cs:List D} (h:Row sz n cap es cs) (hb:G b=some cs) {c:Nat}:zbc G sz (.gs b 0 n c)=some (n,flat es):=by
 have:=h.ncs
 have h0:0+n * sz≤cs.length:=by omega
 simp only [zbc,hb,h0,if_true,List.drop_zero,h.eq]
section
variable {d:Nat} {sz by_:Nat} {z:List D} {l:List (Nat×AV)} {L:Hp} {σ:List Hp} {G:Gh} {K:St→Prop}
theorem zlk {olds es2:List D} {n m:Nat} {es:List D} (hz:z.length=sz) (ho:olds=flat es) (hn:es.length=n) (ha:es.all (za sz)=true) (hm:es2.length=m) (ha2:es2.all (za sz)=true) (hb:(n+m) * by_≤mostBytes)
 (hK:∀ b cap cs,G b=none→Row sz (n+m) cap (es++es2) cs→K (E ((d,.d (.gs b 0 (n+m) cap))::l),L,σ,G.set b (some cs))):zon (some d) sz by_ z olds (flat es2) n m (E l) L σ G K:=by
 refine ⟨hb,fun b cap h1 h2=>hK b cap _ h1 ?_⟩
 subst ho
 have e:flat es++flat es2++rep (cap - (n+m)) z=flat (es++es2)++rep (cap - (n+m)) z:=by rw [zb9]
 rw [e]
 have hall:(es++es2).all (za sz)=true:=by rw [List.all_append,ha,ha2];rfl
 refine Row.mk' (by simp [hn,hm]) hall h2 ?_
 rw [List.length_append,zo hall,List.length_append,hn,hm]
 have:(rep (cap - (n+m)) z).length=(cap - (n+m)) * sz:=by simp [rep,hz]
 rw [this,← Nat.add_mul]
 exact Nat.mul_le_mul_right _ (by omega)
theorem zs2 {es2:List D} {m:Nat} (hz:z.length=sz) (hm:es2.length=m) (ha2:es2.all (za sz)=true) (hb:m * by_≤mostBytes)
 (h0:m=0→K (E ((d,.d .nilS)::l),L,σ,G)) (hK:m≠0→∀ b cap cs,G b=none→Row sz m cap es2 cs→K (E ((d,.d (.gs b 0 m cap))::l),L,σ,G.set b (some cs))):zng (some d) sz by_ z .nilS m (flat es2) (E l) L σ G K:=by
 simp only [zng]
 split
 · rename_i e;exact h0 e
 · rename_i e
   refine zlk (es:=[]) hz (by simp [flat]) rfl rfl hm ha2 (by simpa using hb) ?_
   intro b cap cs h1 h2
   have:=hK e b cap cs h1 (by simpa using h2)
   simpa using this
theorem zs3 {b n cap:Nat} {es cs es2:List D} {m:Nat} (hG:G b=some cs) (hr:Row sz n cap es cs) (hz:z.length=sz) (hm:es2.length=m) (ha2:es2.all (za sz)=true) (hb:(n+m) * by_≤mostBytes)
 (h1:∀ cs',n+m≤cap→Row sz (n+m) cap (es++es2) cs'→K (E ((d,.d (.gs b 0 (n+m) cap))::l),L,σ,G.set b (some cs')))
 (h2:∀ b' cap' cs',cap<n+m→G b'=none→Row sz (n+m) cap' (es++es2) cs'→K (E ((d,.d (.gs b' 0 (n+m) cap'))::l),L,σ,G.set b' (some cs'))):zng (some d) sz by_ z (.gs b 0 n cap) m (flat es2) (E l) L σ G K:=by
 have hn:=hr.ncs
 have hfl:=hr.fl
 have hall:(es++es2).all (za sz)=true:=by rw [List.all_append,hr.all,ha2];rfl
 simp only [zng,hG,Nat.zero_add]
 refine ⟨hn,?_⟩
 split
 · rename_i hc
   have hfit:(n+m) * sz≤cs.length:=Nat.le_trans (Nat.mul_le_mul_right _ hc) hr.room
   refine ⟨hfit,h1 _ hc ⟨by simp [hr.len,hm],hall,hc,?_,?_⟩⟩
   · rw [zfn (by rw [zo ha2,hm,← Nat.add_mul];exact hfit)];exact hr.room
   · simp only [zbe]
     rw [hr.eq,← zb9,List.take_append_of_le_length,List.take_of_length_le]
     · rw [zo hall,List.length_append,hr.len,hm];exact Nat.le_refl _
     · rw [zo hall,List.length_append,hr.len,hm];exact Nat.le_refl _
 · rename_i hc
   rw [List.drop_zero,hr.eq]
   exact zlk hz rfl hr.len hr.all hm ha2 hb fun b' cap' cs' q1 q2=>h2 b' cap' cs' (by omega) q1 q2
end
section
variable {P:Program} {os:List AI} {l:List (Nat×AV)} {L:Hp} {σ:List Hp} {G:Gh} {K:St→Prop}
def wA (x:AV) (y:Option D) {k:D→D→Prop} (_:zk k):Prop:=∃ u v,x=.d u∧y=some v∧k u v
@[go_sem] theorem z8v (u v:D) {k:D→D→Prop} (h:zk k):wA (.d u) (some v) h=k u v:=by simp [wA]
def z0p (d:Option Nat) (sz by_:Nat) (z:List D) (x y:D) (ρ:Env) (L:Hp) (σ:List Hp) (G:Gh) {K:St→Prop} (_:zk K):Prop:=match zol G sz y with|some (m,ys)=>zng d sz by_ z x m ys ρ L σ G K|none=>False
theorem zqr {d:Option Nat} {sz by_:Nat} {z:List D} {x y:D} {ρ:Env} {m:Nat} {ys:List D} {hk:zk K} (h:zbc G sz y=some (m,ys)) (hK:zng d sz by_ z x m ys ρ L σ G K):z0p d sz by_ z x y ρ L σ G hk:=by unfold z0p;rw [zse h];exact hK
@[go_sem ↓] theorem z0q {d:Nat} {sz b:Nat} {z:List D} {x y:AO}:z2 P (⟨some d,.appG sz b z x y,none⟩::os) (E l) L σ G K=wA (ev (E l) x) (ev (E l) y).data (zk.mk (a:=fun u v=>z0p (some d) sz b z u v (E l) L σ G (zk.mk (a:=fun st=>z2 P os st.1 st.2.1 st.2.2.1 st.2.2.2 K)))):=by
  simp only [z2,z7,zai,zbw,wA,z0p,eq_iff_iff]
  generalize ev (E l) x=u
  generalize (ev (E l) y).data=v
  cases u<;>cases v<;>simp<;>exact Iff.rfl
def z7y (d:Option Nat) (sz by_:Nat) (z:List D) (x n:D) (ρ:Env) (L:Hp) (σ:List Hp) (G:Gh) {K:St→Prop} (_:zk K):Prop:=∃ k m,n=.int k m∧0≤m∧m.toNat * by_≤mostBytes∧zng d sz by_ z x m.toNat (rep m.toNat z) ρ L σ G K
@[go_sem ↓] theorem z0r {d:Nat} {sz b:Nat} {z:List D} {x n:AO}:z2 P (⟨some d,.appZ sz b z x n,none⟩::os) (E l) L σ G K=wA (ev (E l) x) (ev (E l) n).data (zk.mk (a:=fun u v=>z7y (some d) sz b z u v (E l) L σ G (zk.mk (a:=fun st=>z2 P os st.1 st.2.1 st.2.2.1 st.2.2.2 K)))):=by
  simp only [z2,z7,zai,zbw,wA,z7y,eq_iff_iff]
  generalize ev (E l) x=u
  generalize ev (E l) n=v
  cases u with
  | d u =>
   cases v with
   | d v =>
    cases v with
    | int k m =>
     refine ⟨fun ⟨h1,h2,h3⟩=>⟨_,_,rfl,rfl,k,m,rfl,h1,h2,h3⟩,?_⟩
     rintro ⟨u',v',e1,e2,k',m',e3,h1,h2,h3⟩
     cases e1;cases e2;cases e3
     exact ⟨h1,h2,h3⟩
    | _=>simp [AV.data]
   | own s es=>simp [AV.data]
   | _=>simp [AV.data]
  | _=>simp
def zwm {k:Nat→Prop} (_:zk k) (G:Gh):Prop:=∀ b,G b=none→k b
theorem zat {k:Nat→Prop} {h:zk k} {G:Gh} (hk:∀ b,G b=none→k b):zwm h G:=hk
@[go_sem ↓] theorem z30 {d:Nat} {sz n:Nat} {z:D} {ps:List (Nat×AO)}:z2 P (⟨some d,.mkG sz n z ps,none⟩::os) (E l) L σ G K=wB (zq (E l) (ps.map (·.2))) (zk.mk (a:=fun vs=>wT (vs.all (za sz) && za sz z && (ps.all fun p=>p.1<n)) (zk.mk (a:=wL ((ps.zip vs).foldl (fun es (p,v)=>es.set p.1 v) (List.replicate n z)) (zk.mk (a:=fun es=>zwm (zk.mk (a:=fun b=>z2 P os (E ((d,.d (.gs b 0 n n))::l)) L σ (G.set b (some (flat es))) K)) G)))))):=by
  simp only [z2,z7,zai,zbw,wB,wT,wL,zwm,eq_iff_iff]
  cases zq (E l) (ps.map (·.2)) with
  | none=>simp
  | some vs=>simp [zo2]
def wCp (sz:Nat) (x:AV) (y:Option D) (G:Gh) {k:Int→Gh→Prop} (_:zk k):Prop :=
 ∃ b off len cap v cs m ys,x=.d (.gs b off len cap)∧y=some v∧G b=some cs∧zbc G sz v=some (m,ys)∧off+len * sz≤cs.length∧k (min (len:Int) (m:Int)) (G.set b (some (zbe cs (ys.take (min len m * sz)) off)))
@[go_sem ↓] theorem z0s {d:Option Nat} {sz:Nat} {x y:AO}:z2 P (⟨d,.copy sz x y,none⟩::os) (E l) L σ G K=wCp sz (ev (E l) x) (ev (E l) y).data G (zk.mk (a:=fun m G'=>z2 P os (put (E l) d (.d (.int .i64 m))) L σ G' K)):=by
  rw [zdk (fun _=>rfl)]
  simp only [zh,wCp,eq_iff_iff]
  generalize ev (E l) x=u
  generalize (ev (E l) y).data=v
  constructor
  · rintro ⟨st,h,hk⟩
    split at h
    · split at h
      · split at h
        · rename_i h1 h2 h3
          cases h
          exact ⟨_,_,_,_,_,_,_,_,rfl,rfl,h1,h2,h3,hk⟩
        · cases h
      · cases h
    · cases h
  · rintro ⟨b,off,len,cap,v,cs,m,ys,rfl,rfl,h1,h2,h3,hk⟩
    exact ⟨_,by simp only [h1,h2,h3,if_true];rfl,hk⟩
end
theorem Row.copy {sz n cap:Nat} {es cs ys:List D} (h:Row sz n cap es cs) {i:Nat} (hy:ys.all (za sz)=true) (hi:i+ys.length≤n):Row sz n cap (es.take i++ys++es.drop (i+ys.length)) (zbe cs (flat ys) (i * sz)):=by
 have hfl:=h.fl
 have hyl:=zo hy
 have hn:=h.ncs
 have hm:(i+ys.length) * sz≤n * sz:=Nat.mul_le_mul_right _ hi
 have hm':=hm
 rw [Nat.add_mul] at hm'
 have hall:(es.take i++ys++es.drop (i+ys.length)).all (za sz)=true:=by rw [List.all_append,List.all_append,zci h.all,hy,zbj h.all];rfl
 have hlen:(es.take i++ys++es.drop (i+ys.length)).length=n:=by simp only [List.length_append,List.length_take,List.length_drop,h.len];omega
 refine ⟨hlen,hall,h.fit,by rw [zfn (by rw [hyl];omega)];exact h.room,?_⟩
 have e:flat (es.take i++ys++es.drop (i+ys.length))=zbe (flat es) (flat ys) (i * sz):=by
  simp only [zb9,zbe,zek i h.all,zdq _ h.all,hyl,Nat.add_mul]
 rw [e]
 conv=>lhs;rw [h.split]
 simp only [zbe]
 rw [List.take_append_of_le_length (by rw [hfl];omega:i * sz≤(flat es).length),List.drop_append_of_le_length (by rw [hfl,hyl];omega),← List.append_assoc,List.take_append_of_le_length,List.take_of_length_le]
 · simp only [List.length_append,List.length_take,List.length_drop];omega
 · simp only [List.length_append,List.length_take,List.length_drop];omega
end Go.E2
