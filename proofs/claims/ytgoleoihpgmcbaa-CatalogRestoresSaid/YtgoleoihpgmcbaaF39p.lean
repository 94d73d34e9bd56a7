/-
 Layer 39 (catalog),continued: the specification's Do.
 Conditions: of each contract as it says.
-/
import Derived.Test.YtgoleoihpgmcbaaF39n
namespace Go.Proofs.Ytgoleoihpgmcbaa
open Go Go.E2 C39
set_option linter.unusedSimpArgs false
set_option maxHeartbeats 1000000
end Go.Proofs.Ytgoleoihpgmcbaa
/-
 Layer 39 (catalog),continued: Find and List of the specification; Find of the program.
 Conditions: of each contract as it says.
-/
namespace Go.Proofs.Ytgoleoihpgmcbaa
open Go Go.E2 C39
set_option linter.unusedSimpArgs false
set_option maxHeartbeats 1000000
def eF (x:En) (l:D) (e:Int):D:=.agg [.str x.name,.int .i64 x.ver,.int .i64 x.obj,.int .i64 x.last,l,.int .i64 e]
attribute [go_sem] eF
def pFind (name:Str) (ver:Int) (x:En):Bool:=decide (x.name=name∧(ver=0∨x.ver=ver))
def resF (o:Option En):En × Int:=match o with|some x=>(x,0)|none=>(noEn,8)
theorem findC_eq {c:Ct} {name:Str} {ver:Int} (h:chk c=0):findC c name ver=resF (c.ents.reverse.find? (pFind name ver)):=by
 unfold findC resF
 rw [if_neg (fun h'=>h' h)]; rfl
theorem backward1_ok (l:List En) (hl:l.length≤100000) (b lo:Nat) (J:Nat→Gh→Prop) (Stop:Gh→Prop) (hJ:∀ k G,J k G→G.c b=some [.list (l.map eE)])
 (hstep:∀ i (h:i < l.length) G σ,J (i + 1) G→CallY Try.prog lo [eI i,eE l[i]] σ G fun r σ' G'=>σ'=σ∧((r=.d (.bool true)∧J i G')∨(r=.d (.bool false)∧Stop G')))
 (σ:List Hp) (G:Gh) (h0:J l.length G):CallT Try.prog f_zz2 ([.yld lo,.gp b 0].map .d) σ G fun _ σ' G'=>σ'=σ∧(J 0 G'∨Stop G'):=by
 refine callT_of_W fol zz2_cp ?_
 have hb:=hJ _ _ h0
 refine goS trivial ?_
 refine goR hb ?_
 refine W.loop (fun m st=>∃ k G,k≤l.length∧m=k∧J k G∧st=(E [(0,.d (.yld lo)),(1,.d (.gp b 0)),(3,.d (eI ((k:Int) - 1)))],HB [],σ,G))
  ⟨_,_,stle,l.length,G,Nat.le_refl _,rfl,h0,rfl⟩ ?_
 clear hb h0 G
 rintro m st ⟨k,G,hk,rfl,hj,rfl⟩
 have hb:=hJ _ _ hj
 refine goR trivial ?_
 refine wG_dec (fun h1=>?_) (fun h1=>?_)
 · obtain ⟨i,rfl⟩:∃ i,m=i + 1:=⟨m - 1,by omega⟩
   have hi:i < l.length:=by omega
   have e1:(((i + 1:Nat):Int) - 1)=(i:Int):=by omega
   rw [e1]
   (repeat (first|(with_reducible first|refine W.seq ?_|refine W.block ?_)|((with_reducible first|refine W.reg ?_|refine W.skip ?_|refine W.exit ?_|refine W.ret ?_|refine W.ifc ?_); simp -dsimp (disch:=first|omega|(simp only [go_sem]; omega)) only [go_sem,seval,Nat.reduceEqDiff,Nat.reduceLeDiff,hb,Int.toNat_natCast])))
   apply wC_y (hstep i hi G _ hj)
   focus (simp -dsimp (disch:=first|omega|(simp only [go_sem]; omega)) only [go_sem,seval,Nat.reduceEqDiff,Nat.reduceLeDiff]<;>fail)
   focus (simp -dsimp (disch:=first|omega|(simp only [go_sem]; omega)) only [go_sem,seval,Nat.reduceEqDiff,Nat.reduceLeDiff]<;>rfl)
   rintro r G' (⟨rfl,hj'⟩|⟨rfl,hst⟩)
   · refine goS trivial ?_
     refine goR trivial ?_
     refine ⟨_,_,?_,stle,i,G',by omega,rfl,hj',rfl⟩
     omega
   · refine goS trivial ?_
     refine goR trivial ?_
     exact Fin.eq rfl ⟨rfl,.inr hst⟩
 · obtain rfl:m=0:=by omega
   refine goR trivial ?_
   exact Fin.eq rfl ⟨rfl,.inl hj⟩
end Go.Proofs.Ytgoleoihpgmcbaa
