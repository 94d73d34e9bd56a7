/-
 Operations that lay a block that may change,and those that write behind a slice zbv one.
 Conditions: none;laws.
-/
import Derived.Test.YtlejjdbmmdghmaaEO6
namespace Go.E2
section
variable {S:Stb} {ms:List (Nat→Nat)} {ow:Nat→Option Nat} {base:Nat} {O:Nat→Prop} {ρ:Env} {L:Hp} {σ:List Hp} {G:Gh} {a:Act} {w:World} {c:Ctx} {o:Oper}
theorem zd2.of_view {P:Program} {lv:List Hp} (h:zcw S ms lv G w) {sz:Nat} {y:D} {v:Value} {m:Nat} {ys:List D} (hy:zb2 G sz y=some (m,ys)) (hv:VRD S y v) :
 ∃ news,zd2 P sz v m news w∧zz S ys news∧ys.all D.one=true∧ys.length=m * sz:=by
 obtain ⟨news,h1,h2,h3,h4,h5⟩:=zmf (P:=P) h hy hv
 refine ⟨news,⟨h4,fun w' hw'=>?_⟩,h1,h2,h3⟩
 have:=h5 w' m (fun ad _=>by simp only [World.cell?,hw']) (Nat.le_refl _)
 rw [List.take_of_length_le (by rw [h1.1,h3];exact Nat.le_refl _)] at this
 exact this
theorem zd2.of_viewS {P:Program} {lv:List Hp} (h:zcw S ms lv G w) {sz:Nat} {y:D} {v:Value} {m:Nat} {ys:List D} (hy:zsz G sz y=some (m,ys)) (hv:VRD S y v) :
 ∃ news,zd2 P sz v m news w∧zz S ys news∧ys.all D.one=true∧ys.length=m * sz:=by
 cases y with
 | str s =>
  simp only [zsz] at hy
  split at hy
  · rename_i h1
    subst h1
    cases hy
    cases hv with
    | str s l h =>
     subst h
     refine ⟨_,⟨fun w'=>ztp s w',fun w' _=>?_⟩,zqi S _,zz0 _,by rw [zk9,Nat.mul_one]⟩
     rw [zm8,List.take_of_length_le (by simp)]
  · cases hy
 | _=>exact zd2.of_view h (by exact hy) hv
theorem zu5 [DD] (h:Rel S ms ow base O ρ L σ G a w) {d:Option Nat} (hd:∀ i,d=some i→i<a.tmps.size) {sz by_ n m:Nat} {z olds ys:List D} {zv:Array Value} {ov nv:List Value} {e:TypeId} {K:St→Prop}
 (hK:zs0 d sz by_ z olds ys n m ρ L σ G K) (hz:zz S z zv.toList) (hzo:z.all D.one=true) (ho:zz S olds ov) (hoo:olds.all D.one=true) (hn:zz S ys nv) (hno:ys.all D.one=true) {cap:Nat} (hcap:n+m≤cap) :
 ∃ st,K st∧Rel S ms ow base O st.1 st.2.1 st.2.2.1 st.2.2.2 (a.put d (.slice (some ⟨w.heap.size,0,none⟩) (n+m) cap)) (w.drew.alloc (.cells (ov.toArray++nv.toArray++Builtin.zeroCells zv (cap - (n+m))) e)) ∧
   Evo base O S w S (w.drew.alloc (.cells (ov.toArray++nv.toArray++Builtin.zeroCells zv (cap - (n+m))) e))∧zah σ st.2.2.1:=by
 have hk:=hK.2 w.heap.size cap h.g_none hcap
 refine ⟨_,hk,?_,⟨by rw [za3 (w:=w.drew)];exact Nat.le_succ _,fun b hb _=>zq (w:=w.drew) (Nat.lt_of_lt_of_le hb h.bas),fun _ _=>rfl,Sub.refl S,rfl,rfl,rfl⟩,zah.refl _⟩
 have hbox:zeo S (w.drew.alloc (.cells (ov.toArray++nv.toArray++Builtin.zeroCells zv (cap - (n+m))) e)) w.heap.size (olds++ys++rep (cap - (n+m)) z):=by
  refine ⟨_,e,zab (w:=w.drew),?_,?_⟩
  · simp only [Array.toList_append]
    exact (ho.append hn).append (zcp hz _)
  · rw [List.all_append,List.all_append,hoo,hno,ze2 hzo];rfl
 exact (h.allocG (by exact za3 (w:=w.drew)) (fun b hb=>zq (w:=w.drew) hb) hbox).put (x:=.d (.gs w.heap.size 0 (n+m) cap)) (VRD.gs _ _ _ _ hcap) (fun _ _ e=>by cases e) hd
theorem zn7 {n m by_ cap nb:Nat} (hb:nb=by_) (hby:0<by_) (hc:cap<n+m) (h:(n+m) * by_≤mostBytes):((n+m:Nat):Int)≤9223372036854775807∧Builtin.nextslicecap (n+m) cap * nb≤281474976710656:=by
 subst hb
 have:(n+m) * 1≤(n+m) * nb:=Nat.mul_le_mul_left _ hby
 unfold mostBytes at h
 exact ⟨by omega,growslice_fits (bytes:=nb) hc h⟩
theorem zu6 [DD] (h:Rel S ms ow base O ρ L σ G a w) {d:Option Nat} (hd:∀ i,d=some i→i<a.tmps.size) {P:Program} {t u ty e:TypeId} {i:TypeInfo} {zv:Value} {z:List D} (_hi:P.info? e=some i) (hzs:zz S z zv.cells.toList) (hzo:z.all D.one=true) (_hzl:zv.cells.size=i.size) (_hsz:0<i.size) (hby:0<i.bytes)
 {x:D} {xv yv:Value} (hx:VRD S x xv) {m:Nat} {ys:List D} {news:List Value} (hvn:zz S ys news) (hon:ys.all D.one=true) (hyl:ys.length=m * i.size)
 (rsame:∀ b n cap,m=0→xv=.slice none 0 0→b=(none:Option Addr)→n=0→cap=0→(Builtin.append_ #[t,u] ty #[xv,yv]).run P w=.ok (.slice none 0 0) w)
 (rroom:∀ g off n cap cur eb,xv=.slice (some ⟨g,off,none⟩) n cap→w.heap[g]?=some (.cells cur eb (0,0))→n+m≤cap→off+n * i.size+news.length≤cur.size→(Builtin.append_ #[t,u] ty #[xv,yv]).run P w =
   .ok (.slice (some ⟨g,off,none⟩) (n+m) cap) (w.setRow g (cur.toList.take (off+n * i.size)++news++cur.toList.drop (off+n * i.size+news.length)).toArray))
 (rgrow:∀ b n cap olds,xv=.slice b n cap→zd2 P i.size (.slice b n cap) n olds w→cap<n+m→((n+m:Nat):Int)≤9223372036854775807→Builtin.nextslicecap (n+m) cap * i.bytes≤281474976710656→(Builtin.append_ #[t,u] ty #[xv,yv]).run P w =
   .ok (.slice (some ⟨w.heap.size,0,none⟩) (n+m) (grownCap w (n+m) cap e)) (w.drew.alloc (.cells (olds.toArray++news.toArray++Builtin.zeroCells zv.cells (grownCap w (n+m) cap e - (n+m))) e)))
 {K:St→Prop} (hK:zs1 d i.size i.bytes z x m ys ρ L σ G K) :
 ∃ st v w',K st∧(Builtin.append_ #[t,u] ty #[xv,yv]).run P w=.ok v w'∧Rel S ms ow base O st.1 st.2.1 st.2.2.1 st.2.2.2 (a.put d v) w'∧Evo base O S w S w'∧zah σ st.2.2.1:=by
 unfold zs1 at hK
 split at hK
 · have hxv:=VRD.nilS_inv hx
   split at hK
   · rename_i hm
     exact ⟨_,_,_,hK,rsame none 0 0 hm hxv rfl rfl rfl,h.put (x:=.d .nilS) VRD.nilS (fun _ _ e=>by cases e) hd,Evo.refl _ _ _ _,zah.refl _⟩
   · rename_i hm
     have hc:0<0+m:=by omega
     obtain ⟨h63,hfit⟩:=zn7 (n:=0) (m:=m) (cap:=0) rfl hby hc hK.1
     have hso:zd2 P i.size (.slice none 0 0) 0 [] w:=⟨fun w'=>by simp [Builtin.lenOf],fun w' _=>by simp [Builtin.firstCells]⟩
     have hr:=rgrow none 0 0 [] hxv hso hc h63 hfit
     obtain ⟨st,k1,k2,k3,k4⟩:=zu5 (e:=e) h hd hK hzs hzo (ov:=[]) zz.nil rfl hvn hon (grownCap_ge w (0+m) 0 e)
     exact ⟨st,_,_,k1,hr,k2,k3,k4⟩
 · rename_i b off n cap
   obtain ⟨hxv,hnc⟩:xv=.slice (some ⟨b,off,none⟩) n cap∧n≤cap:=by cases hx;rename_i hh;exact ⟨rfl,hh⟩
   split at hK
   · rename_i cs hcs
     obtain ⟨hfit0,hK⟩:=hK
     obtain ⟨c0,e0,hc0,hvc,hone⟩:=h.h.gbox hcs
     have hcl:c0.size=cs.length:=by have:=hvc.1;simpa using this
     have hnl:news.length=m * i.size:=by rw [hvn.1,hyl]
     split at hK
     · rename_i hroom
       obtain ⟨hfit,hk⟩:=hK
       have hr:=rroom b off n cap c0 e0 hxv hc0 hroom (by rw [hnl,hcl];rw [Nat.add_mul] at hfit;omega)
       have hbox:=zfa (w:=w) hc0 hvc hone hvn hon (off+n * i.size)
       exact ⟨_,_,_,hk,hr,(h.storeG hcs (by simp) (fun i hi=>setRow_other w b i _ hi) hbox).put (x:=.d (.gs b off (n+m) cap)) (VRD.gs _ _ _ _ hroom) (fun _ _ e=>by cases e) hd,
        Evo.store (b:=b) (by simp) (fun i hi=>setRow_other w b i _ hi) (h.gold hcs) rfl rfl rfl,zah.refl _⟩
     · rename_i hroom
       have hc:cap<n+m:=by omega
       obtain ⟨h63,hfit⟩:=zn7 (n:=n) (m:=m) (cap:=cap) rfl hby hc hK.1
       have hvw:zb2 G i.size (.gs b off n cap)=some (n,(cs.drop off).take (n * i.size)):=by simp [zb2,hcs,hfit0]
       obtain ⟨olds,hso,hvo,hoo,_⟩:=zd2.of_view (P:=P) h.h hvw (hxv▸hx)
       have hr:=rgrow _ n cap olds hxv hso hc h63 hfit
       obtain ⟨st,k1,k2,k3,k4⟩:=zu5 (e:=e) h hd hK hzs hzo hvo hoo hvn hon (grownCap_ge w (n+m) cap e)
       exact ⟨st,_,_,k1,hr,k2,k3,k4⟩
   · exact hK.elim
 · exact hK.elim
end
end Go.E2
namespace Go.E2
section
variable {S:Stb} {ms:List (Nat→Nat)} {ow:Nat→Option Nat} {base:Nat} {O:Nat→Prop} {ρ:Env} {L:Hp} {σ:List Hp} {G:Gh} {a:Act} {w:World} {c:Ctx} {o:Oper}
theorem zf5 {c:Ctx} {dst:Option Nat} {callee:Callee} {as:List Operand} {ts:List TypeId} {ty:TypeId} {aop:AOp} (h:zck c dst { callee,args:=⟨as⟩,argTypes:=⟨ts⟩ } ty=some aop)
 (hg:(∃ sz b z x y,aop=.appG sz b z x y)∨∃ sz b z x y,aop=.appZ sz b z x y):callee=.builtin .append:=by
 cases callee with
 | value f =>
  simp only [zck] at h
  split at h
  · cases h;rcases hg with ⟨_,_,_,_,_,e⟩|⟨_,_,_,_,_,e⟩<;>cases e
  · cases h
 | invoke r m=>obtain ⟨_,_,_,_,_,rfl⟩:=zb5 h;rcases hg with ⟨_,_,_,_,_,e⟩|⟨_,_,_,_,_,e⟩<;>cases e
 | builtin b =>
  cases b<;>first|rfl|(exfalso;simp only [zck] at h;(repeat' split at h)<;>first|(cases h;done)|(cases h;rcases hg with ⟨_,_,_,_,_,e⟩|⟨_,_,_,_,_,e⟩<;>cases e))
theorem zsy {dst:Option Nat} {ty:TypeId} {op:Op} {aop:AOp} (hc:cOp c dst ty op=some aop) (hg:(∃ sz b z x y,aop=.appG sz b z x y)∨∃ sz b z x y,aop=.appZ sz b z x y) :
 ∃ as ts,op=.call { callee:=.builtin .append,args:=⟨as⟩,argTypes:=⟨ts⟩ }∧zck c dst { callee:=.builtin .append,args:=⟨as⟩,argTypes:=⟨ts⟩ } ty=some aop:=by
 have no:∀ {x:AOp},aop=x→(∀ sz b z p q,x≠.appG sz b z p q)→(∀ sz b z p q,x≠.appZ sz b z p q)→False:=by
  intro x e h1 h2
  subst e
  rcases hg with ⟨_,_,_,_,_,e⟩|⟨_,_,_,_,_,e⟩
  · exact h1 _ _ _ _ _ e
  · exact h2 _ _ _ _ _ e
 cases op with
 | call cl =>
  obtain ⟨callee,⟨as⟩,⟨ts⟩⟩:=cl
  simp only [cOp] at hc
  have:=zf5 hc hg
  subst this
  exact ⟨as,ts,rfl,hc⟩
 | unOp u t y =>
  cases u with
  | xor =>
   simp only [cOp] at hc
   split at hc
   · exact (no (Option.some.inj hc).symm (by intros;simp) (by intros;simp)).elim
   · cases hc
  | _=>simp [cOp] at hc<;>(obtain ⟨_,_,e⟩:=hc;exact (no e.symm (by intros;simp) (by intros;simp)).elim)
 | makeFunc fn x y =>
  cases fn with
  | func f =>
   simp only [cOp] at hc
   split at hc
   · simp only [Option.map_eq_some_iff] at hc
     obtain ⟨_,_,e⟩:=hc
     exact (no e.symm (by intros;simp) (by intros;simp)).elim
   · cases hc
  | _=>simp [cOp] at hc
 | binOp o t x y u =>
  simp only [cOp] at hc
  split at hc
  · unfold zzq at hc
    (repeat' split at hc)<;>first|(cases hc;done)|(cases hc;exact (no rfl (by intros;simp) (by intros;simp)).elim)
  · cases hc
 | slice t x lo hi mx =>
  simp only [cOp] at hc
  split at hc
  · rcases zdh hc with ⟨_,_,_,_,_,_,e⟩|⟨_,_,_,_,⟨_,_,_,_,_,e⟩|⟨_,_,_,e⟩|⟨_,_,_,_,_,_,_,_,_,e⟩|⟨_,_,_,_,_,_,_,_,_,_,e⟩⟩<;>exact (no e (by intros;simp) (by intros;simp)).elim
  · cases hc
 | convert s d x =>
  simp only [cOp] at hc
  split at hc
  · unfold zmj at hc
    (repeat' split at hc)<;>first|(cases hc;done)|(cases hc;exact (no rfl (by intros;simp) (by intros;simp)).elim)
  · cases hc
 | buildSlice t n ps =>
  simp only [cOp] at hc
  exfalso
  split at hc
  · cases hc
  · split at hc
    · split at hc
      · split at hc
        · cases hc
          split at hg<;>rcases hg with ⟨_,_,_,_,_,e⟩|⟨_,_,_,_,_,e⟩<;>cases e
        · split at hc
          · cases hc
            split at hg<;>rcases hg with ⟨_,_,_,_,_,e⟩|⟨_,_,_,_,_,e⟩<;>cases e
          · cases hc
      · cases hc
    · cases hc
 | _ =>
  exfalso
  simp only [cOp] at hc
  first
  | (cases hc;done)
  | ((repeat' split at hc)<;>first|(cases hc;done)|(cases hc;exact no rfl (by intros;simp) (by intros;simp))|(simp only [Option.map_eq_some_iff] at hc;obtain ⟨_,_,e⟩:=hc;exact no e.symm (by intros;simp) (by intros;simp)))
theorem z04 {dst:Option Nat} {ty:TypeId} {op:Op} {sz n:Nat} {zd:D} {ps':List (Nat×AO)} (hc:cOp c dst ty op=some (.mkG sz n zd ps')) :
 ∃ t ps e z,op=.buildSlice t n ps∧c.P.underlying t=some (.slice e)∧tsz c.P e=some sz∧zdo c.P e=some z∧zd.cells=z∧0<sz∧z.length=sz∧n * sz≤2 ^ 24∧zff ps.toList=some ps':=by
 cases op with
 | buildSlice t n' ps =>
  simp only [cOp] at hc
  split at hc
  · cases hc
  · rename_i e he
    have hu:c.P.underlying t=some (.slice e):=by
     unfold zea at he
     split at he
     · cases he;assumption
     · cases he
    split at hc
    · rename_i sz' z g ps2 hsz hz hg hps
      split at hc
      · rename_i hcond
        split at hc
        · cases hin:zkz c dst with
          | false=>rw [hin] at hc;simp at hc
          | true =>
           rw [hin] at hc
           simp at hc
           obtain ⟨rfl,rfl,rfl,rfl⟩:=hc
           exact ⟨t,ps,e,z,rfl,hu,hsz,hz,rfl,hcond.1,hcond.2.1,hcond.2.2,hps⟩
        · split at hc
          · rename_i z0
            cases hin:zkz c dst with
            | false=>rw [hin] at hc;simp at hc
            | true =>
             rw [hin] at hc
             simp at hc
             obtain ⟨rfl,rfl,rfl,rfl⟩:=hc
             obtain ⟨_,_,_,hzo,_⟩:=zbs (S:=fun _=>none) hz
             exact ⟨t,ps,e,[z0],rfl,hu,hsz,hz,D.cells_one (by simpa using hzo),hcond.1,hcond.2.1,hcond.2.2,hps⟩
          · cases hc
      · cases hc
    · cases hc
 | call cl =>
  obtain ⟨callee,⟨as⟩,⟨ts⟩⟩:=cl
  simp only [cOp] at hc
  cases callee with
  | value f =>
   simp only [zck] at hc
   split at hc<;>cases hc
  | invoke r m=>obtain ⟨_,_,_,_,_,e⟩:=zb5 hc;cases e
  | builtin b =>
   cases b<;>simp only [zck] at hc<;>(repeat' split at hc)<;>first|(cases hc;done)|(split at hc<;>cases hc;done)|(simp at hc;done)|skip
   all_goals (first|(split at hc<;>simp at hc)|simp at hc)
 | unOp u t y=>cases u<;>simp [cOp] at hc;(split at hc<;>simp at hc)
 | makeFunc fn x y =>
  cases fn with
  | func f=>simp only [cOp] at hc;split at hc<;>simp at hc
  | _=>simp [cOp] at hc
 | binOp o t x y u =>
  simp only [cOp] at hc
  split at hc
  · unfold zzq at hc
    (repeat' split at hc)<;>cases hc
  · cases hc
 | slice t x lo hi mx =>
  simp only [cOp] at hc
  split at hc
  · rcases zdh hc with ⟨_,_,_,_,_,_,e⟩|⟨_,_,_,_,⟨_,_,_,_,_,e⟩|⟨_,_,_,e⟩|⟨_,_,_,_,_,_,_,_,_,e⟩|⟨_,_,_,_,_,_,_,_,_,_,e⟩⟩<;>cases e
  · cases hc
 | convert s d x =>
  simp only [cOp] at hc
  split at hc
  · unfold zmj at hc
    (repeat' split at hc)<;>cases hc
  · cases hc
 | _ =>
  exfalso
  simp only [cOp] at hc
  first
  | (cases hc;done)
  | ((repeat' split at hc)<;>first|(cases hc;done)|(simp at hc;done))
end
end Go.E2
namespace Go.E2
section
variable {S:Stb} {ms:List (Nat→Nat)} {ow:Nat→Option Nat} {base:Nat} {O:Nat→Prop} {ρ:Env} {L:Hp} {σ:List Hp} {G:Gh} {a:Act} {w:World} {c:Ctx} {o:Oper}
theorem zfb {P:Program} {t e:TypeId} (h:zea P t=some e):P.underlying t=some (.slice e):=by
 unfold zea at h
 split at h
 · cases h;assumption
 · cases h
theorem zu7 {c:Ctx} {dst:Option Nat} {ty:TypeId} {op:Op} {neg:Bool} {x:AO} (hop:cOp c dst ty op=some (.isnil neg x)) :
 ∃ bop t p q u e,op=.binOp bop t p q u∧cO p=some x∧cO q=some (.c .nilS)∧c.P.underlying t=some (.slice e)∧((bop=.eql∧neg=false)∨(bop=.neq∧neg=true)):=by
 cases op with
 | binOp bop t p q u =>
  simp only [cOp] at hop
  split at hop
  · rename_i p' q' hp hq
    unfold zzq at hop
    split at hop
    · cases hop
    · cases hop
    · rename_i e hu
      split at hop
      · cases hop;exact ⟨_,_,_,_,_,e,rfl,hp,hq,hu,.inl ⟨rfl,rfl⟩⟩
      · cases hop;exact ⟨_,_,_,_,_,e,rfl,hp,hq,hu,.inr ⟨rfl,rfl⟩⟩
      · cases hop
    · (repeat' split at hop)<;>cases hop
    · (repeat' split at hop)<;>cases hop
    · (repeat' split at hop)<;>cases hop
    · cases hop
  · cases hop
 | call cl =>
  exfalso
  obtain ⟨callee,as,ts⟩:=cl
  cases callee with
  | value f'=>simp only [cOp,zck] at hop;split at hop<;>cases hop
  | invoke r m=>simp only [cOp] at hop;obtain ⟨_,_,_,_,_,e⟩:=zb5 hop;cases e
  | builtin b =>
   cases b<;>simp only [cOp,zck] at hop<;>(repeat' split at hop)<;>first|(cases hop;done)|(simp at hop;done)|(split at hop<;>cases hop;done)
 | unOp u t y=>cases u<;>simp [cOp] at hop;(split at hop<;>simp at hop)
 | makeFunc fn x y =>
  cases fn with
  | func f=>simp only [cOp] at hop;split at hop<;>simp at hop
  | _=>simp [cOp] at hop
 | slice t x lo hi mx =>
  simp only [cOp] at hop
  split at hop
  · rcases zdh hop with ⟨_,_,_,_,_,_,e⟩|⟨_,_,_,_,⟨_,_,_,_,_,e⟩|⟨_,_,_,e⟩|⟨_,_,_,_,_,_,_,_,_,e⟩|⟨_,_,_,_,_,_,_,_,_,_,e⟩⟩<;>cases e
  · cases hop
 | convert s d x =>
  simp only [cOp] at hop
  split at hop
  · unfold zmj at hop
    (repeat' split at hop)<;>cases hop
  · cases hop
 | _ =>
  exfalso
  simp only [cOp] at hop
  first
  | (cases hop;done)
  | ((repeat' split at hop)<;>first|(cases hop;done)|(simp at hop;done)|(split at hop<;>cases hop;done))
theorem zx3 [DD] (h:Rel S ms ow base O ρ L σ G a w) {aop:AOp} (hc:cOp c o.dst o.type o.op=some aop) (hold:aop.old=true) (hd:∀ i,o.dst=some i→i<a.tmps.size) {K:St→Prop} (hx:zce o.dst aop ρ L σ G K) :
 ∃ st,K st∧zc9 c.P S ms ow base O σ a w o st:=by
 obtain ⟨m0,hm⟩:=za8 h
 obtain ⟨dst,op,ty,pos,after,guard⟩:=o
 have app:((∃ sz b z x y,aop=.appG sz b z x y)∨∃ sz b z x y,aop=.appZ sz b z x y)→∃ st,K st∧zc9 c.P S ms ow base O σ a w ⟨dst,op,ty,pos,after,guard⟩ st:=by
  intro hg
  obtain ⟨as,ts,rfl,hcc⟩:=zsy hc hg
  obtain ⟨x,y,t,u,x',y',e,sz,by_,z,rfl,rfl,hx1,hy1,ht1,hs1,hb1,⟨hz1,hp1,hp2,hzl⟩,hcase⟩:=ze9 hcc
  have hut:=zfb ht1
  obtain ⟨i,hi,rfl⟩:=zcs hs1
  have hby:by_=i.bytes:=by unfold tby at hb1;rw [hi] at hb1;simp at hb1;exact hb1.symm
  subst hby
  obtain ⟨zv,_,hzs,hzo,i',hi',hiz⟩:=zbs (S:=S) hz1
  rw [hi] at hi'
  cases hi'
  have hzsz:zv.cells.size=i.size:=by have:=hzs.1;simp at this;omega
  have hzone:∀ n,∀ v∈(Builtin.zeroCells zv.cells n).toList,v.oneCell'=true:=fun n=>(zcp hzs n).one (ze2 hzo n)
  have wrap:∀ {st:St} {v:Value} {w':World},(Builtin.append_ #[t,u] ty #[a.eval x,a.eval y]).run c.P w=.ok v w'→Rel S ms ow base O st.1 st.2.1 st.2.2.1 st.2.2.2 (a.put dst v) w'→Evo base O S w S w'→zah σ st.2.2.1 →
   zc9 c.P S ms ow base O σ a w ⟨dst,.call { callee:=.builtin .append,args:=⟨[x,y]⟩,argTypes:=⟨[t,u]⟩ },ty,pos,after,guard⟩ st:=by
   intro st v w' h1 h2 h3 h4
   refine ⟨v,w',S,m0,ow,.inl ?_,by rw [← hm];exact h2,h3,h4⟩
   simp only [execOp,resolve,invoke,Sem.run_bind,Sem.run_pure,Result.andThen_ok,Go.builtin,List.map_toArray,List.map_cons,List.map_nil,h1]
  rcases hcase with ⟨hu1,rfl⟩|⟨k,hu1,rfl|⟨rfl,_⟩⟩
  · have huu:zjd c.P u:=hu1.elim (fun h=>.inl ⟨_,zfb h⟩) .inr
    by_cases hin:zkz c dst=true
    · rw [if_pos hin] at hx
      simp only [zce] at hx
      split at hx
      · rename_i xd yd e1 e2
        have hxv:=za h.tmpT hx1
        rw [e1] at hxv
        have hyv:=(za h.tmpT hy1).data e2
        split at hx
        · rename_i m ys hvw
          obtain ⟨news,hso,hvn,hon,hyl⟩:=zd2.of_viewS (P:=c.P) h.h hvw hyv
          obtain ⟨st,v,w',k1,k2,k3,k4,k5⟩:=zu6 (P:=c.P) (t:=t) (u:=u) (ty:=ty) (e:=e) h hd hi hzs hzo hzsz hp1 hp2 (xv:=a.eval x) (yv:=a.eval y) hxv hvn hon hyl
           (fun b n cap hm0 hxn _ _ _=>by
             subst hm0
             have hn0:news=[]:=List.eq_nil_of_length_eq_zero (by rw [hvn.1,hyl];simp)
             subst hn0
             rw [hxn]
             exact ze1 w t u ty e i hut huu hi none 0 0 (a.eval y) hso (Nat.le_refl _))
           (fun g off n cap cur eb hxg hg hroom hfit=>by
             rw [hxg]
             exact zl1 w t u ty e i hut huu hi g off n cap cur eb hg (a.eval y) m news hso (hvn.one hon) hroom hfit)
           (fun b n cap olds hxb hso' hcap h63 hfit=>by
             rw [hxb]
             exact zih w t u ty e i zv hut huu hi hiz b n cap olds hso' (a.eval y) m news hso hcap h63 hfit) hx
          exact ⟨st,k1,wrap k2 k3 k4 k5⟩
        · exact hx.elim
      · exact hx.elim
    · exfalso
      rw [if_neg hin] at hg
      rcases hg with ⟨_,_,_,_,_,e⟩|⟨_,_,_,_,_,e⟩<;>cases e
  · simp only [zce] at hx
    split at hx
    · rename_i xd k' m e1 e2
      have hxv:=za h.tmpT hx1
      rw [e1] at hxv
      have hyv:=za h.tmpT hy1
      rw [e2] at hyv
      obtain ⟨hm0,hmb,hx⟩:=hx
      obtain ⟨m',rfl⟩:∃ m':Nat,m=m':=⟨m.toNat,by omega⟩
      have hyi:a.eval y=.int k' m':=VRD.int_inv hyv
      simp only [Int.toNat_natCast] at hx hmb
      obtain ⟨st,v,w',k1,k2,k3,k4,k5⟩:=zu6 (P:=c.P) (t:=t) (u:=u) (ty:=ty) (e:=e) h hd hi hzs hzo hzsz hp1 hp2 (xv:=a.eval x) (yv:=a.eval y) hxv (zcp hzs m') (ze2 hzo m') (by simp [rep,hzl])
       (fun b n cap hm0 hxn _ _ _=>by
         subst hm0
         rw [hxn,hyi]
         exact znb w t u ty e k i zv hut hu1 hi hiz k')
       (fun g off n cap cur eb hxg hg hroom hfit=>by
         rw [hxg,hyi]
         exact zgv w t u ty e k i zv hut hu1 hi hiz hzsz _ g off n cap rfl cur eb ⟨_,hg,.inl rfl⟩ k' m' hmb hp2 (hzone m') hroom (by rw [Array.length_toList,zde,hzsz] at hfit;exact hfit))
       (fun b n cap olds hxb hso' hcap h63 hfit=>by
         rw [hxb,hyi]
         have:=zgw w t u ty e k i zv hut hu1 hi hiz hzsz b n cap olds hso' k' m' hmb hp2 hcap h63 hfit
         simpa using this) hx
      exact ⟨st,k1,wrap k2 k3 k4 k5⟩
    · exact hx.elim
  · rcases hg with ⟨_,_,_,_,_,e⟩|⟨_,_,_,_,_,e⟩<;>cases e
 have other:(∃ st,zm dst aop ρ L σ G=some st∧K st)→∃ st,K st∧zc9 c.P S ms ow base O σ a w ⟨dst,op,ty,pos,after,guard⟩ st :=
  fun ⟨st,h1,h2⟩=>⟨st,h2,zmg h hc hd h1⟩
 cases aop with
 | appG sz b z x y=>exact app (.inl ⟨_,_,_,_,_,rfl⟩)
 | appZ sz b z x y=>exact app (.inr ⟨_,_,_,_,_,rfl⟩)
 | mkG sz n zd ps' =>
  obtain ⟨t,ps,e,z,rfl,hut,hsz,hz,hzd,hpos,hzl,hbig,hps⟩:=z04 hc
  simp only [zce] at hx
  split at hx
  · rename_i vs hvs
    obtain ⟨hok,hK⟩:=hx
    simp only [Bool.and_eq_true] at hok
    obtain ⟨cells,hrun,hv,hall,hlen⟩:=zj7 (P:=c.P) (w:=w) h.tmpT hut hsz hz hzd hpos hzl hbig hps hvs hok.1.1 hok.1.2 hok.2
    have hr:(execOp a.eval ⟨dst,.buildSlice t n ps,ty,pos,after,guard⟩).run c.P w=.ok (.value (.slice (some ⟨w.heap.size,0,none⟩) n n)) (w.alloc (.cells cells e)):=by
     simp only [execOp,Sem.run_bind,hrun,Result.andThen_ok,Sem.run_pure]
    refine ⟨_,hK w.heap.size h.g_none,_,_,S,m0,ow,.inl hr,?_,Evo.alloc h.bas _,zah.refl _⟩
    rw [← hm]
    exact (h.allocG za3 (fun b hb=>zq hb) ⟨cells,e,zab,hv,zfn hall⟩).put (x:=.d (.gs w.heap.size 0 n n)) (VRD.gs _ _ _ _ (Nat.le_refl _)) (fun _ _ e=>by cases e) hd
  · exact hx.elim
 | isnil neg x =>
  simp only [zce] at hx
  split at hx
  · rename_i e1
    obtain ⟨bop,t,p,q,u,e,rfl,hp,hq,hu,hop⟩:=zu7 hc
    have hq':=za h.tmpT hq
    have hqv:a.eval q=.slice none 0 0:=VRD.nilS_inv hq'
    have hpd:=(za h.tmpT hp).data e1
    obtain ⟨b,cap,_,hpv,hsp,hb0,_⟩:=hpd.list_inv'
    have hr:=zi4 (P:=c.P) (w:=w) hu hop b 0 cap p q
    refine ⟨_,hx (if neg then !b.isNone else b.isNone),.bool (if neg then !b.isNone else b.isNone),w,S,m0,ow,.inl ?_,by rw [← hm];exact h.put (x:=.d (.bool _)) (VRD.bool _) (fun _ _ e=>by cases e) hd,Evo.refl _ _ _ _,zah.refl _⟩
    have hpv':a.eval p=.slice b 0 cap:=hpv
    simp only [execOp,Sem.run_bind,Sem.run_pure,hpv',hqv] at hr ⊢
    rw [hr]
    cases neg<;>rfl
  · exact other hx
 | gn k as=>cases hold
 | _=>exact other hx
end
end Go.E2
