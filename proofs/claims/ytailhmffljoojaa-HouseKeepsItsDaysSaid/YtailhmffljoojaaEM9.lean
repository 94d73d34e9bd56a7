/-
 The evaluator's runs are the machine's: the whole function.
 Conditions: none;laws.
-/
import Derived.Test.YtailhmffljoojaaEM8b
namespace Go.E2
def zvq (tmps:Array Value):ResultVar→Sem Value
 | .tmp t=>pure (tmps.getD t undef)
 | .cell a t=>do loadVar t (← asAddr (tmps.getD a undef))
theorem zo1 (fn:Func) (tmps:Array Value):results fn tmps=(do
 let vs ← Functor.map List.toArray (fn.results.toList.mapM (zvq tmps))
 pure (if h:vs.size=1 then vs[0] else .tuple vs)):=by
 unfold results
 rw [Array.mapM_eq_mapM_toList]
 rfl
section
variable {P:Program} {S:Stb} {ms:List (Nat→Nat)} {ow:Nat→Option Nat} {base:Nat} {O:Nat→Prop} {ρ:Env} {L:Hp} {σ:List Hp} {G:Gh} {a:Act} {w:World}
theorem zlf (h:Rel S ms ow base O ρ L σ G a w) {r:ResultVar} {ar:zft} (hc:zka P [r]=some [ar]) {x:AV} (hx:zeb ρ (L::σ) G ar=some x) :
 ∃ v,(zvq a.tmps r).run P w=.ok v w∧Ret S w G base x v:=by
 cases r with
 | tmp t =>
  simp [zka] at hc
  subst hc
  refine ⟨a.tmps.getD t undef,by simp only [zvq,Sem.run_pure],?_⟩
  have ht:=h.tmp t
  simp only [zeb] at hx
  split at hx
  · rename_i y e;cases hx;rw [e] at ht;exact ht
  · rename_i sz es e
    cases hx
    exact ⟨ow t,h.own e,fun g hg=>⟨(h.ownB e hg).1,(h.ownB e hg).2.1⟩⟩
  · cases hx
 | cell b t =>
  simp only [zka] at hc
  split at hc
  · rename_i g n rs e1 e2 e3
    split at hc
    · rename_i hgn
      cases e3
      cases hc
      have ht:=h.tmp b
      simp only [zeb] at hx
      split at hx
      · rename_i k s g0 off e
        rw [e] at ht
        split at hx
        · rename_i cs hcs
          simp only [Option.map_eq_some_iff] at hx
          obtain ⟨z,hz,rfl⟩:=hx
          obtain ⟨bb,hb,_,c0,e0,hc0,hvc,hone⟩:=ziq h.h ht hcs
          obtain ⟨v,hv,hr⟩:=zdv (w:=w) (b:=bb) (o:=off) e1 e2 hgn (hvc.drop off) (zbj hone off) (zcz hc0) hz
          exact ⟨v,by simp [zvq,hb,asAddr,hv],hr⟩
        · cases hx
      · rename_i bb off e
        rw [e] at ht
        have hb:=zfd ht
        split at hx
        · rename_i cs hcs
          simp only [Option.map_eq_some_iff] at hx
          obtain ⟨z,hz,rfl⟩:=hx
          obtain ⟨c0,e0,hc0,hvc,hone⟩:=h.h.gbox hcs
          obtain ⟨v,hv,hr⟩:=zdv (w:=w) (b:=bb) (o:=off) e1 e2 hgn (hvc.drop off) (zbj hone off) (zcz hc0) hz
          exact ⟨v,by simp [zvq,hb,asAddr,hv],hr⟩
        · cases hx
      · cases hx
    · cases hc
  · cases hc
theorem zf4 {r:ResultVar} {rs:List ResultVar} {res:List zft} (h:zka P (r::rs)=some res):∃ ar res',res=ar::res'∧zka P [r]=some [ar]∧zka P rs=some res':=by
 cases r with
 | tmp t =>
  simp only [zka,Option.map_eq_some_iff] at h
  obtain ⟨x,hx,rfl⟩:=h
  exact ⟨_,_,rfl,rfl,hx⟩
 | cell b t =>
  simp only [zka] at h
  split at h
  · rename_i g n rs' e1 e2 e3
    split at h
    · rename_i hgn
      cases h
      exact ⟨_,_,rfl,by simp [zka,e1,e2,hgn],e3⟩
    · cases h
  · cases h
theorem Ret.data {x:AV} {y:D} {v:Value} (h:Ret S w G base x v) (hy:x.data=some y):VRD S y v:=by
 cases x with
 | d z=>simp [AV.data] at hy;subst hy;exact h
 | own sz es=>simp [AV.data] at hy;subst hy;obtain ⟨R,ho,_⟩:=h;exact ho.vrd
 | _=>simp [AV.data] at hy
theorem zlg (h:Rel S ms ow base O ρ L σ G a w):∀ (rs:List ResultVar) (res:List zft) (xs:List D),zka P rs=some res→zcs ρ (L::σ) G res=some xs →
 ∃ vs,(rs.mapM (zvq a.tmps)).run P w=.ok vs w∧zx S xs vs
 | [],res,xs,hc,hx=>by
   simp [zka] at hc;subst hc
   simp [zcs] at hx;subst hx
   exact ⟨[],by simp,zx.nil⟩
 | r::rs,res,xs,hc,hx=>by
   obtain ⟨ar,res',rfl,h1,h2⟩:=zf4 hc
   simp only [zcs] at hx
   split at hx
   · rename_i v vs e1 e2
     split at hx
     · rename_i y hy
       cases hx
       obtain ⟨u,hu,hru⟩:=zlf h h1 e1
       obtain ⟨us,hus,hrus⟩:=zlg h rs res' vs h2 e2
       exact ⟨u::us,by simp [List.mapM_cons,hu,hus],zx.cons (hru.data hy) hrus⟩
     · cases hx
   · cases hx
theorem zns:∀ {rs:List ResultVar} {res:List zft},zka P rs=some res→rs.length=res.length
 | [],res,h=>by simp [zka] at h;subst h;rfl
 | r::rs,res,h=>by
   obtain ⟨ar,res',rfl,_,h2⟩:=zf4 h
   simp [zns h2]
theorem zjt {lv:List Hp}:∀ {res:List zft} {xs:List D},zcs ρ lv G res=some xs→xs.length=res.length
 | [],xs,h=>by simp [zcs] at h;subst h;rfl
 | r::res,xs,h=>by
   simp only [zcs] at h
   split at h
   · rename_i v vs e1 e2
     split at h
     · cases h
       simp [zjt e2]
     · cases h
   · cases h
theorem zze (h:Rel S ms ow base O ρ L σ G a w) {fn:Func} {res:List zft} (hc:zka P fn.results.toList=some res) {r:AV} (hx:fin res ρ (L::σ) G=some r) :
 ∃ v,(results fn a.tmps).run P w=.ok v w∧Ret S w G base r v:=by
 rw [zo1]
 generalize fn.results.toList=rs at hc
 have many:∀ xs,zcs ρ (L::σ) G res=some xs→res.length≠1→r=.tup xs→∃ v,((do
  let vs ← Functor.map List.toArray (rs.mapM (zvq a.tmps))
  pure (if h:vs.size=1 then vs[0] else .tuple vs):Sem Value)).run P w=.ok v w∧Ret S w G base r v:=by
  intro xs hxs hl ho
  subst ho
  obtain ⟨vs,hvs,hr⟩:=zlg h rs res xs hc hxs
  have hlen:=zns hc
  have hxl:=zjt hxs
  refine ⟨.tuple vs.toArray,?_,vs.toArray,rfl,by simpa using hr⟩
  have h1:vs.length≠1:=by have:=hr.1;omega
  simp [hvs,h1]
 match res,hx,hc,many with
 | [ar],hx,hc,_ =>
  simp only [fin] at hx
  cases rs with
  | nil=>simp [zka] at hc
  | cons r0 rs =>
   obtain ⟨ar',res',e,h1,h2⟩:=zf4 hc
   cases e
   have:rs=[]:=by
    cases rs with
    | nil=>rfl
    | cons r' rs'=>obtain ⟨_,_,e,_⟩:=zf4 h2;cases e
   subst this
   obtain ⟨u,hu,hru⟩:=zlf h h1 hx
   exact ⟨u,by simp [List.mapM_cons,hu],hru⟩
 | [],hx,hc,many =>
  simp only [fin,Option.map_eq_some_iff] at hx
  obtain ⟨xs,hxs,rfl⟩:=hx
  exact many xs hxs (by simp) rfl
 | x::y::res,hx,hc,many =>
  simp only [fin,Option.map_eq_some_iff] at hx
  obtain ⟨xs,hxs,rfl⟩:=hx
  exact many xs hxs (by simp) rfl
end
end Go.E2
