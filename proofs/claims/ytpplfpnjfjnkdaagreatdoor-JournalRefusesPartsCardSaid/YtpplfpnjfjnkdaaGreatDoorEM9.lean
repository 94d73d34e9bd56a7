/-
 The evaluator's runs are the machine's: the whole function.
 Conditions: none;laws.
-/
import Derived.Test.YtpplfpnjfjnkdaaGreatDoorEM8b
namespace Go.E2
def z2t (tmps:Array Value):ResultVar→Sem Value
 | .tmp t=>pure (tmps.getD t undef)
 | .cell a t=>do loadVar t (← asAddr (tmps.getD a undef))
theorem ztk (fn:Func) (tmps:Array Value):results fn tmps=(do
 let vs ← Functor.map List.toArray (fn.results.toList.mapM (z2t tmps))
 pure (if h:vs.size=1 then vs[0] else .tuple vs)):=by
 unfold results
 rw [Array.mapM_eq_mapM_toList]
 rfl
section
variable {P:Program} {S:Stb} {ms:List (Nat→Nat)} {ow:Nat→Option Nat} {base:Nat} {O:Nat→Prop} {ρ:Env} {L:Hp} {σ:List Hp} {G:Gh} {a:Act} {w:World}
theorem zoa (h:Rel S ms ow base O ρ L σ G a w) {r:ResultVar} {ar:zh4} (hc:zmq P [r]=some [ar]) {x:AV} (hx:zgk ρ (L::σ) G ar=some x) :
 ∃ v,(z2t a.tmps r).run P w=.ok v w∧Ret S w G base x v:=by
 cases r with
 | tmp t =>
  simp [zmq] at hc
  subst hc
  refine ⟨a.tmps.getD t undef,by simp only [z2t,Sem.run_pure],?_⟩
  have ht:=h.tmp t
  simp only [zgk] at hx
  split at hx
  · rename_i y e;cases hx;rw [e] at ht;exact ht
  · rename_i sz es e
    cases hx
    exact ⟨ow t,h.own e,fun g hg=>⟨(h.ownB e hg).1,(h.ownB e hg).2.1⟩⟩
  · cases hx
 | cell b t =>
  simp only [zmq] at hc
  split at hc
  · rename_i g n rs e1 e2 e3
    split at hc
    · rename_i hgn
      cases e3
      cases hc
      have ht:=h.tmp b
      simp only [zgk] at hx
      split at hx
      · rename_i k s g0 off e
        rw [e] at ht
        split at hx
        · rename_i cs hcs
          simp only [yk8Q] at hx
          obtain ⟨z,hz,rfl⟩:=hx
          obtain ⟨bb,hb,_,c0,e0,hc0,hvc,hone⟩:=zkf h.h ht hcs
          obtain ⟨v,hv,hr⟩:=zeq (w:=w) (b:=bb) (o:=off) e1 e2 hgn (hvc.drop off) (zcc hone off) (zdj hc0) hz
          exact ⟨v,by simp [z2t,hb,asAddr,hv],hr⟩
        · cases hx
      · rename_i bb off e
        rw [e] at ht
        have hb:=zgn ht
        split at hx
        · rename_i cs hcs
          simp only [yk8Q] at hx
          obtain ⟨z,hz,rfl⟩:=hx
          obtain ⟨c0,e0,hc0,hvc,hone⟩:=h.h.gbox hcs
          obtain ⟨v,hv,hr⟩:=zeq (w:=w) (b:=bb) (o:=off) e1 e2 hgn (hvc.drop off) (zcc hone off) (zdj hc0) hz
          exact ⟨v,by simp [z2t,hb,asAddr,hv],hr⟩
        · cases hx
      · cases hx
    · cases hc
  · cases hc
theorem zhk {r:ResultVar} {rs:List ResultVar} {res:List zh4} (h:zmq P (r::rs)=some res):∃ ar res',res=ar::res'∧zmq P [r]=some [ar]∧zmq P rs=some res':=by
 cases r with
 | tmp t =>
  simp only [zmq,yk8Q] at h
  obtain ⟨x,hx,rfl⟩:=h
  exact ⟨_,_,rfl,rfl,hx⟩
 | cell b t =>
  simp only [zmq] at h
  split at h
  · rename_i g n rs' e1 e2 e3
    split at h
    · rename_i hgn
      cases h
      exact ⟨_,_,rfl,by simp [zmq,e1,e2,hgn],e3⟩
    · cases h
  · cases h
theorem Ret.data {x:AV} {y:D} {v:Value} (h:Ret S w G base x v) (hy:x.data=some y):VRD S y v:=by
 cases x with
 | d z=>simp [AV.data] at hy;subst hy;exact h
 | own sz es=>simp [AV.data] at hy;subst hy;obtain ⟨R,ho,_⟩:=h;exact ho.vrd
 | _=>simp [AV.data] at hy
theorem zob (h:Rel S ms ow base O ρ L σ G a w):∀ (rs:List ResultVar) (res:List zh4) (xs:List D),zmq P rs=some res→ze7 ρ (L::σ) G res=some xs →
 ∃ vs,(rs.mapM (z2t a.tmps)).run P w=.ok vs w∧zac S xs vs
 | [],res,xs,hc,hx=>by
   simp [zmq] at hc;subst hc
   simp [ze7] at hx;subst hx
   exact ⟨[],by simp,zac.nil⟩
 | r::rs,res,xs,hc,hx=>by
   obtain ⟨ar,res',rfl,h1,h2⟩:=zhk hc
   simp only [ze7] at hx
   split at hx
   · rename_i v vs e1 e2
     split at hx
     · rename_i y hy
       cases hx
       obtain ⟨u,hu,hru⟩:=zoa h h1 e1
       obtain ⟨us,hus,hrus⟩:=zob h rs res' vs h2 e2
       exact ⟨u::us,by simp [List.mapM_cons,hu,hus],zac.cons (hru.data hy) hrus⟩
     · cases hx
   · cases hx
theorem zrr:∀ {rs:List ResultVar} {res:List zh4},zmq P rs=some res→rs.length=res.length
 | [],res,h=>by simp [zmq] at h;subst h;rfl
 | r::rs,res,h=>by
   obtain ⟨ar,res',rfl,_,h2⟩:=zhk h
   simp [zrr h2]
theorem zly {lv:List Hp}:∀ {res:List zh4} {xs:List D},ze7 ρ lv G res=some xs→xs.length=res.length
 | [],xs,h=>by simp [ze7] at h;subst h;rfl
 | r::res,xs,h=>by
   simp only [ze7] at h
   split at h
   · rename_i v vs e1 e2
     split at h
     · cases h
       simp [zly e2]
     · cases h
   · cases h
theorem z6t (h:Rel S ms ow base O ρ L σ G a w) {fn:Func} {res:List zh4} (hc:zmq P fn.results.toList=some res) {r:AV} (hx:fin res ρ (L::σ) G=some r) :
 ∃ v,(results fn a.tmps).run P w=.ok v w∧Ret S w G base r v:=by
 rw [ztk]
 generalize fn.results.toList=rs at hc
 have many:∀ xs,ze7 ρ (L::σ) G res=some xs→res.length≠1→r=.tup xs→∃ v,((do
  let vs ← Functor.map List.toArray (rs.mapM (z2t a.tmps))
  pure (if h:vs.size=1 then vs[0] else .tuple vs):Sem Value)).run P w=.ok v w∧Ret S w G base r v:=by
  intro xs hxs hl ho
  subst ho
  obtain ⟨vs,hvs,hr⟩:=zob h rs res xs hc hxs
  have hlen:=zrr hc
  have hxl:=zly hxs
  refine ⟨.tuple vs.toArray,?_,vs.toArray,rfl,by simpa using hr⟩
  have h1:vs.length≠1:=by have:=hr.1;omega
  simp [hvs,h1]
 match res,hx,hc,many with
 | [ar],hx,hc,_ =>
  simp only [fin] at hx
  cases rs with
  | nil=>simp [zmq] at hc
  | cons r0 rs =>
   obtain ⟨ar',res',e,h1,h2⟩:=zhk hc
   cases e
   have:rs=[]:=by
    cases rs with
    | nil=>rfl
    | cons r' rs'=>obtain ⟨_,_,e,_⟩:=zhk h2;cases e
   subst this
   obtain ⟨u,hu,hru⟩:=zoa h h1 hx
   exact ⟨u,by simp [List.mapM_cons,hu],hru⟩
 | [],hx,hc,many =>
  simp only [fin,yk8Q] at hx
  obtain ⟨xs,hxs,rfl⟩:=hx
  exact many xs hxs (by simp) rfl
 | x::y::res,hx,hc,many =>
  simp only [fin,yk8Q] at hx
  obtain ⟨xs,hxs,rfl⟩:=hx
  exact many xs hxs (by simp) rfl
