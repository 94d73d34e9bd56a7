/-
 The evaluator's runs are the machine's: the whole function.
 Conditions: none;laws.
-/
import Derived.Test.YtpplfpnjfjnkdaaGreatDoorEM8b
namespace Go.E2
def z12 (tmps:Array Value):ResultVar→Sem Value
 | .tmp t=>pure (tmps.getD t undef)
 | .cell a t=>do loadVar t (← asAddr (tmps.getD a undef))
theorem zte (fn:Func) (tmps:Array Value):results fn tmps=(do
 let vs ← Functor.map List.toArray (fn.results.toList.mapM (z12 tmps))
 pure (if h:vs.size=1 then vs[0] else .tuple vs)):=by
 unfold results
 rw [Array.mapM_eq_mapM_toList]
 rfl
section
variable {P:Program} {S:Stb} {ms:List (Nat→Nat)} {ow:Nat→Option Nat} {base:Nat} {O:Nat→Prop} {ρ:Env} {L:Hp} {σ:List Hp} {G:Gh} {a:Act} {w:World}
theorem zn2 (h:Rel S ms ow base O ρ L σ G a w) {r:ResultVar} {ar:zgv} (hc:zl6 P [r]=some [ar]) {x:AV} (hx:zex ρ (L::σ) G ar=some x) :
 ∃ v,(z12 a.tmps r).run P w=.ok v w∧Ret S w G base x v:=by
 cases r with
 | tmp t =>
  simp [zl6] at hc
  subst hc
  refine ⟨a.tmps.getD t undef,by simp only [z12,Sem.run_pure],?_⟩
  have ht:=h.tmp t
  simp only [zex] at hx
  split at hx
  · rename_i y e;cases hx;rw [e] at ht;exact ht
  · rename_i sz es e
    cases hx
    exact ⟨ow t,h.own e,fun g hg=>⟨(h.ownB e hg).1,(h.ownB e hg).2.1⟩⟩
  · cases hx
 | cell b t =>
  simp only [zl6] at hc
  split at hc
  · rename_i g n rs e1 e2 e3
    split at hc
    · rename_i hgn
      cases e3
      cases hc
      have ht:=h.tmp b
      simp only [zex] at hx
      split at hx
      · rename_i k s g0 off e
        rw [e] at ht
        split at hx
        · rename_i cs hcs
          simp only [Option.map_eq_some_iff] at hx
          obtain ⟨z,hz,rfl⟩:=hx
          obtain ⟨bb,hb,_,c0,e0,hc0,hvc,hone⟩:=zj3 h.h ht hcs
          obtain ⟨v,hv,hr⟩:=zed (w:=w) (b:=bb) (o:=off) e1 e2 hgn (hvc.drop off) (zb0 hone off) (zdb hc0) hz
          exact ⟨v,by simp [z12,hb,asAddr,hv],hr⟩
        · cases hx
      · rename_i bb off e
        rw [e] at ht
        have hb:=zf9 ht
        split at hx
        · rename_i cs hcs
          simp only [Option.map_eq_some_iff] at hx
          obtain ⟨z,hz,rfl⟩:=hx
          obtain ⟨c0,e0,hc0,hvc,hone⟩:=h.h.gbox hcs
          obtain ⟨v,hv,hr⟩:=zed (w:=w) (b:=bb) (o:=off) e1 e2 hgn (hvc.drop off) (zb0 hone off) (zdb hc0) hz
          exact ⟨v,by simp [z12,hb,asAddr,hv],hr⟩
        · cases hx
      · cases hx
    · cases hc
  · cases hc
theorem zg7 {r:ResultVar} {rs:List ResultVar} {res:List zgv} (h:zl6 P (r::rs)=some res):∃ ar res',res=ar::res'∧zl6 P [r]=some [ar]∧zl6 P rs=some res':=by
 cases r with
 | tmp t =>
  simp only [zl6,Option.map_eq_some_iff] at h
  obtain ⟨x,hx,rfl⟩:=h
  exact ⟨_,_,rfl,rfl,hx⟩
 | cell b t =>
  simp only [zl6] at h
  split at h
  · rename_i g n rs' e1 e2 e3
    split at h
    · rename_i hgn
      cases h
      exact ⟨_,_,rfl,by simp [zl6,e1,e2,hgn],e3⟩
    · cases h
  · cases h
theorem Ret.data {x:AV} {y:D} {v:Value} (h:Ret S w G base x v) (hy:x.data=some y):VRD S y v:=by
 cases x with
 | d z=>simp [AV.data] at hy;subst hy;exact h
 | own sz es=>simp [AV.data] at hy;subst hy;obtain ⟨R,ho,_⟩:=h;exact ho.vrd
 | _=>simp [AV.data] at hy
theorem zn3 (h:Rel S ms ow base O ρ L σ G a w):∀ (rs:List ResultVar) (res:List zgv) (xs:List D),zl6 P rs=some res→zc6 ρ (L::σ) G res=some xs →
 ∃ vs,(rs.mapM (z12 a.tmps)).run P w=.ok vs w∧z6 S xs vs
 | [],res,xs,hc,hx=>by
   simp [zl6] at hc;subst hc
   simp [zc6] at hx;subst hx
   exact ⟨[],by simp,z6.nil⟩
 | r::rs,res,xs,hc,hx=>by
   obtain ⟨ar,res',rfl,h1,h2⟩:=zg7 hc
   simp only [zc6] at hx
   split at hx
   · rename_i v vs e1 e2
     split at hx
     · rename_i y hy
       cases hx
       obtain ⟨u,hu,hru⟩:=zn2 h h1 e1
       obtain ⟨us,hus,hrus⟩:=zn3 h rs res' vs h2 e2
       exact ⟨u::us,by simp [List.mapM_cons,hu,hus],z6.cons (hru.data hy) hrus⟩
     · cases hx
   · cases hx
theorem zru:∀ {rs:List ResultVar} {res:List zgv},zl6 P rs=some res→rs.length=res.length
 | [],res,h=>by simp [zl6] at h;subst h;rfl
 | r::rs,res,h=>by
   obtain ⟨ar,res',rfl,_,h2⟩:=zg7 h
   simp [zru h2]
theorem zlk {lv:List Hp}:∀ {res:List zgv} {xs:List D},zc6 ρ lv G res=some xs→xs.length=res.length
 | [],xs,h=>by simp [zc6] at h;subst h;rfl
 | r::res,xs,h=>by
   simp only [zc6] at h
   split at h
   · rename_i v vs e1 e2
     split at h
     · cases h
       simp [zlk e2]
     · cases h
   · cases h
theorem z58 (h:Rel S ms ow base O ρ L σ G a w) {fn:Func} {res:List zgv} (hc:zl6 P fn.results.toList=some res) {r:AV} (hx:fin res ρ (L::σ) G=some r) :
 ∃ v,(results fn a.tmps).run P w=.ok v w∧Ret S w G base r v:=by
 rw [zte]
 generalize fn.results.toList=rs at hc
 have many:∀ xs,zc6 ρ (L::σ) G res=some xs→res.length≠1→r=.tup xs→∃ v,((do
  let vs ← Functor.map List.toArray (rs.mapM (z12 a.tmps))
  pure (if h:vs.size=1 then vs[0] else .tuple vs):Sem Value)).run P w=.ok v w∧Ret S w G base r v:=by
  intro xs hxs hl ho
  subst ho
  obtain ⟨vs,hvs,hr⟩:=zn3 h rs res xs hc hxs
  have hlen:=zru hc
  have hxl:=zlk hxs
  refine ⟨.tuple vs.toArray,?_,vs.toArray,rfl,by simpa using hr⟩
  have h1:vs.length≠1:=by have:=hr.1;omega
  simp [hvs,h1]
 match res,hx,hc,many with
 | [ar],hx,hc,_ =>
  simp only [fin] at hx
  cases rs with
  | nil=>simp [zl6] at hc
  | cons r0 rs =>
   obtain ⟨ar',res',e,h1,h2⟩:=zg7 hc
   cases e
   have:rs=[]:=by
    cases rs with
    | nil=>rfl
    | cons r' rs'=>obtain ⟨_,_,e,_⟩:=zg7 h2;cases e
   subst this
   obtain ⟨u,hu,hru⟩:=zn2 h h1 hx
   exact ⟨u,by simp [List.mapM_cons,hu],hru⟩
 | [],hx,hc,many =>
  simp only [fin,Option.map_eq_some_iff] at hx
  obtain ⟨xs,hxs,rfl⟩:=hx
  exact many xs hxs (by simp) rfl
 | x::y::res,hx,hc,many =>
  simp only [fin,Option.map_eq_some_iff] at hx
  obtain ⟨xs,hxs,rfl⟩:=hx
  exact many xs hxs (by simp) rfl
end
end Go.E2
