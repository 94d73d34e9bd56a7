/-
 The evaluator's runs are the machine's: the whole function.
 Conditions: none; laws.
-/
import Derived.Test.YtclmdhceceacoaaGreatDoorEM8b
namespace Go.E2
def resM (tmps:Array Value):ResultVar→Sem Value
 | .tmp t=>pure (tmps.getD t undef)
 | .cell a t=>do loadVar t (← asAddr (tmps.getD a undef))
theorem results_eq (fn:Func) (tmps:Array Value):results fn tmps=(do
 let vs ← Functor.map List.toArray (fn.results.toList.mapM (resM tmps))
 pure (if h:vs.size=1 then vs[0] else .tuple vs)):=by
 unfold results
 rw [Array.mapM_eq_mapM_toList]
 rfl
section
variable {P:Program} {S:Stb} {ms:List (Nat→Nat)} {ow:Nat→Option Nat} {base:Nat} {O:Nat→Prop} {ρ:Env} {L:Hp} {σ:List Hp} {G:Gh} {a:Act} {w:World}
theorem resOne_ok (h:Rel S ms ow base O ρ L σ G a w) {r:ResultVar} {ar:ARes} (hc:cRes P [r]=some [ar]) {x:AV} (hx:resOne ρ (L::σ) G ar=some x) :
 ∃ v,(resM a.tmps r).run P w=.ok v w∧Ret S w G base x v:=by
 cases r with
 | tmp t =>
  simp [cRes] at hc
  subst hc
  refine ⟨a.tmps.getD t undef,by simp only [resM,Sem.run_pure],?_⟩
  have ht:=h.tmp t
  simp only [resOne] at hx
  split at hx
  · rename_i y e; cases hx; rw [e] at ht; exact ht
  · rename_i sz es e
    cases hx
    exact ⟨ow t,h.own e,fun g hg=>⟨(h.ownB e hg).1,(h.ownB e hg).2.1⟩⟩
  · cases hx
 | cell b t =>
  simp only [cRes] at hc
  split at hc
  · rename_i g n rs e1 e2 e3
    split at hc
    · rename_i hgn
      cases e3
      cases hc
      have ht:=h.tmp b
      simp only [resOne] at hx
      split at hx
      · rename_i k s g0 off e
        rw [e] at ht
        split at hx
        · rename_i cs hcs
          simp only [Option.map_eq_some_iff] at hx
          obtain ⟨z,hz,rfl⟩:=hx
          obtain ⟨bb,hb,_,c0,e0,hc0,hvc,hone⟩:=box_cells h.h ht hcs
          obtain ⟨v,hv,hr⟩:=loadVar_ok (w:=w) (b:=bb) (o:=off) e1 e2 hgn (hvc.drop off) (all_drop hone off) (cell_of_block hc0) hz
          exact ⟨v,by simp [resM,hb,asAddr,hv],hr⟩
        · cases hx
      · rename_i bb off e
        rw [e] at ht
        have hb:=gp_inv ht
        split at hx
        · rename_i cs hcs
          simp only [Option.map_eq_some_iff] at hx
          obtain ⟨z,hz,rfl⟩:=hx
          obtain ⟨c0,e0,hc0,hvc,hone⟩:=h.h.gbox hcs
          obtain ⟨v,hv,hr⟩:=loadVar_ok (w:=w) (b:=bb) (o:=off) e1 e2 hgn (hvc.drop off) (all_drop hone off) (cell_of_block hc0) hz
          exact ⟨v,by simp [resM,hb,asAddr,hv],hr⟩
        · cases hx
      · cases hx
    · cases hc
  · cases hc
theorem cRes_cons {r:ResultVar} {rs:List ResultVar} {res:List ARes} (h:cRes P (r::rs)=some res):∃ ar res',res=ar::res'∧cRes P [r]=some [ar]∧cRes P rs=some res':=by
 cases r with
 | tmp t =>
  simp only [cRes,Option.map_eq_some_iff] at h
  obtain ⟨x,hx,rfl⟩:=h
  exact ⟨_,_,rfl,rfl,hx⟩
 | cell b t =>
  simp only [cRes] at h
  split at h
  · rename_i g n rs' e1 e2 e3
    split at h
    · rename_i hgn
      cases h
      exact ⟨_,_,rfl,by simp [cRes,e1,e2,hgn],e3⟩
    · cases h
  · cases h
theorem Ret.data {x:AV} {y:D} {v:Value} (h:Ret S w G base x v) (hy:x.data=some y):VRD S y v:=by
 cases x with
 | d z=>simp [AV.data] at hy; subst hy; exact h
 | own sz es=>simp [AV.data] at hy; subst hy; obtain ⟨R,ho,_⟩:=h; exact ho.vrd
 | _=>simp [AV.data] at hy
theorem resAll_ok (h:Rel S ms ow base O ρ L σ G a w):∀ (rs:List ResultVar) (res:List ARes) (xs:List D),cRes P rs=some res→resAll ρ (L::σ) G res=some xs →
 ∃ vs,(rs.mapM (resM a.tmps)).run P w=.ok vs w∧VRDs S xs vs
 | [],res,xs,hc,hx=>by
   simp [cRes] at hc; subst hc
   simp [resAll] at hx; subst hx
   exact ⟨[],by simp,VRDs.nil⟩
 | r::rs,res,xs,hc,hx=>by
   obtain ⟨ar,res',rfl,h1,h2⟩:=cRes_cons hc
   simp only [resAll] at hx
   split at hx
   · rename_i v vs e1 e2
     split at hx
     · rename_i y hy
       cases hx
       obtain ⟨u,hu,hru⟩:=resOne_ok h h1 e1
       obtain ⟨us,hus,hrus⟩:=resAll_ok h rs res' vs h2 e2
       exact ⟨u::us,by simp [List.mapM_cons,hu,hus],VRDs.cons (hru.data hy) hrus⟩
     · cases hx
   · cases hx
theorem cRes_len:∀ {rs:List ResultVar} {res:List ARes},cRes P rs=some res→rs.length=res.length
 | [],res,h=>by simp [cRes] at h; subst h; rfl
 | r::rs,res,h=>by
   obtain ⟨ar,res',rfl,_,h2⟩:=cRes_cons h
   simp [cRes_len h2]
theorem resAll_len {lv:List Hp}:∀ {res:List ARes} {xs:List D},resAll ρ lv G res=some xs→xs.length=res.length
 | [],xs,h=>by simp [resAll] at h; subst h; rfl
 | r::res,xs,h=>by
   simp only [resAll] at h
   split at h
   · rename_i v vs e1 e2
     split at h
     · cases h
       simp [resAll_len e2]
     · cases h
   · cases h
theorem fin_ok (h:Rel S ms ow base O ρ L σ G a w) {fn:Func} {res:List ARes} (hc:cRes P fn.results.toList=some res) {r:AV} (hx:fin res ρ (L::σ) G=some r) :
 ∃ v,(results fn a.tmps).run P w=.ok v w∧Ret S w G base r v:=by
 rw [results_eq]
 generalize fn.results.toList=rs at hc
 have many:∀ xs,resAll ρ (L::σ) G res=some xs→res.length ≠ 1→r=.tup xs→∃ v,((do
  let vs ← Functor.map List.toArray (rs.mapM (resM a.tmps))
  pure (if h:vs.size=1 then vs[0] else .tuple vs):Sem Value)).run P w=.ok v w∧Ret S w G base r v:=by
  intro xs hxs hl ho
  subst ho
  obtain ⟨vs,hvs,hr⟩:=resAll_ok h rs res xs hc hxs
  have hlen:=cRes_len hc
  have hxl:=resAll_len hxs
  refine ⟨.tuple vs.toArray,?_,vs.toArray,rfl,by simpa using hr⟩
  have h1:vs.length ≠ 1:=by have:=hr.1; omega
  simp [hvs,h1]
 match res,hx,hc,many with
 | [ar],hx,hc,_ =>
  simp only [fin] at hx
  cases rs with
  | nil=>simp [cRes] at hc
  | cons r0 rs =>
   obtain ⟨ar',res',e,h1,h2⟩:=cRes_cons hc
   cases e
   have:rs=[]:=by
    cases rs with
    | nil=>rfl
    | cons r' rs'=>obtain ⟨_,_,e,_⟩:=cRes_cons h2; cases e
   subst this
   obtain ⟨u,hu,hru⟩:=resOne_ok h h1 hx
   exact ⟨u,by simp [List.mapM_cons,hu],hru⟩
 | [],hx,hc,many =>
  simp only [fin,Option.map_eq_some_iff] at hx
  obtain ⟨xs,hxs,rfl⟩:=hx
  exact many xs hxs (by simp) rfl
 | x::y::res,hx,hc,many =>
  simp only [fin,Option.map_eq_some_iff] at hx
  obtain ⟨xs,hxs,rfl⟩:=hx
  exact many xs hxs (by simp) rfl
end
end Go.E2
