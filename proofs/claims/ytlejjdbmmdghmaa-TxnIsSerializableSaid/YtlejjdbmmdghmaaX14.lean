/-
 Layer 40 (txn): is there something in parts.
 Conditions: of each contract as it says.
-/
import Derived.Test.YtlejjdbmmdghmaaY3
import Derived.Test.YtlejjdbmmdghmaaX9
set_option linter.unusedSimpArgs false
namespace Go.Proofs.Ytlejjdbmmdghmaa
open Go Go.E2 C22 C40
set_option maxHeartbeats 2000000
theorem zy.args {P:Program} {f:FuncId} {xs ys:List D} {pre:List As} {Q:AV→List As→Prop} (h:zy P f ys pre Q) (hl:zhj xs ys):zy P f xs pre Q:=fun R G σ hs=>(h R G σ hs).args hl
theorem z5q (ps:List (List Tw)):(ps.map eL).all (za 1)=true:=by
 rw [List.all_eq_true];intro x hx
 obtain ⟨y,_,rfl⟩:=List.mem_map.1 hx
 rfl
theorem zvs (l:List Tw):zb2 Try.prog f_zz56 [eL l] (·=.d (.bool (decide (l≠[])))):=by
 refine zdf fol zz56_cp ?_
 by_cases h:l=[]
 · have e:(0<(l.length:Int))=False:=eq_false (by rw [h];simp)
   refine goS trivial ?_
   (refine goX e ?_;(repeat' (with_reducible apply Br.mk<;>intro _)))
   exact Fin.p rfl (by simp [h])
 · have e:(0<(l.length:Int))=True:=eq_true (by have:=List.length_pos_iff.2 h;omega)
   refine goS trivial ?_
   (refine goX e ?_;(repeat' (with_reducible apply Br.mk<;>intro _)))
   exact Fin.p rfl (by simp [h])
def ixQ:List (List Tw)→Nat→Int
 | [],_=>-1
 | p::ps,i=>if p≠[] then (i:Int) else ixQ ps (i+1)
def zoa (ps:List (List Tw)):Bool:=ps.any fun p=>decide (p≠[])
theorem zvt:∀ (l:List (List Tw)) (i:Nat),decide (0≤ixQ l i)=zoa l
 | [],_=>rfl
 | x::l,i=>by
   unfold ixQ
   by_cases hp:x=[]
   · rw [if_neg (by simpa using hp),zvt l (i+1)];simp [hp,zoa]
   · rw [if_pos hp];simp [hp,zoa]
theorem zvu (ps:List (List Tw)) (hL:ps.length≤9223372036854775807):zb2 Try.prog f_zz2 [.list (ps.map eL),.fn f_zz56] (·=.d (.int .i64 (ixQ ps 0))):=by
 refine zdf fol zz2_cp ?_
 have hall:=z5q ps
 refine goS trivial ?_
 refine goR trivial ?_
 refine W.loop (fun m st=>∃ (i:Nat),m+i=ps.length∧ixQ (ps.drop i) i=ixQ ps 0 ∧
  st=(E [(0,.d (.list (ps.map eL))),(1,.d (.fn f_zz56)),(7,.d (.int .i64 (ps.length:Nat))),(8,.d (.int .i64 (i:Nat)))],HB [],[],zel))
  ⟨_,_,zca,0,rfl,rfl,rfl⟩ ?_
 rintro m st ⟨i,hi,he,rfl⟩
 by_cases hlt:i<ps.length
 · have hlt':(i:Int)<(ps.length:Int):=by omega
   rw [List.drop_eq_getElem_cons hlt,ixQ] at he
   by_cases hb:ps[i]=[]
   · rw [if_neg (by simpa using hb)] at he
     have hrun:=zvs ps[i]
     rw [decide_eq_false (by simpa using hb)] at hrun
     (refine zg1 (nn hlt' hall) (hrun) ?_;(repeat' (with_reducible apply Br.mk<;>intro _)))
     exact ⟨m - 1,_,by omega,zca,i+1,by omega,he,rfl⟩
   · rw [if_pos hb] at he
     have hrun:=zvs ps[i]
     rw [decide_eq_true hb] at hrun
     (refine zg1 (nn hlt' hall) (hrun) ?_;(repeat' (with_reducible apply Br.mk<;>intro _)))
     exact Fin.p rfl (by rw [he])
 · have:i=ps.length:=by omega
   subst this
   rw [List.drop_length] at he
   have hx:((ps.length:Int)<(ps.length:Int))=False:=eq_false (by omega)
   (refine goX hx ?_;(repeat' (with_reducible apply Br.mk<;>intro _)))
   exact Fin.p rfl (by rw [← he];rfl)
theorem zob (ps:List (List Tw)) (hL:ps.length≤9223372036854775807):zb2 Try.prog f_zz0 [.list (ps.map eL),.fn f_zz56] (·=.d (.bool (zoa ps))):=by
 refine zdf fol zz0_cp ?_
 rw [← zvt ps 0]
 refine goS trivial ?_
 (refine zg1 trivial (zvu ps hL) ?_;(repeat' (with_reducible apply Br.mk<;>intro _)))
 exact Fin.p rfl rfl
end Go.Proofs.Ytlejjdbmmdghmaa
namespace Go.Proofs.Ytlejjdbmmdghmaa
open Go Go.E2 C22 C40
set_option maxHeartbeats 2000000
abbrev zcv (a b:Nat):D:=.list [.gp a 0,.gp b 0]
end Go.Proofs.Ytlejjdbmmdghmaa
