/-
 Layer 21 (disk): writes on a disk that is not armed,as plain mathematics.
 Conditions: of each law as it says.
-/
import Derived.Test.YtioojmlhmhgeeaaS22
namespace C22
structure Wd (d:Dk) (n:Int):Prop where
 ok:Okd d
 len:d.cs.length=16
 live:d.dead=false
 aft:d.after=-1
 good:∀ c ∈ d.cs,c.bad=false
 st:d.steps≤n
theorem Wd.chk {d:Dk} {n:Int} (h:Wd d n) {k:Nat} (hk:k < 16):chk d k=0:=by
 unfold C22.chk
 rw [if_neg (by rw [h.live]; simp),if_neg (by have:=h.len; omega)]
theorem stp_live {d:Dk} (h:d.after=-1):stp d=({ d with steps:=d.steps + 1 },0):=by
 unfold stp
 rw [if_neg (by omega),if_neg (by omega)]
theorem Wd.wr {d:Dk} {n:Int} (h:Wd d n) {k:Nat} (hk:k < 16) (s:Sec):wr d k s=({ d with steps:=d.steps + 1,cs:=d.cs.modify k fun c=>{ c with op:=c.op ++ [s] } },0):=by
 unfold C22.wr
 rw [if_neg (by rw [h.chk hk]; simp),stp_live h.aft,if_neg (by simp),Int.toNat_natCast]
theorem Wd.sy {d:Dk} {n:Int} (h:Wd d n):sy d=({ d with steps:=d.steps + 1,cs:=d.cs.map syC },0):=by
 unfold C22.sy
 rw [if_neg (by rw [h.live]; simp),stp_live h.aft,if_neg (by simp)]
theorem Wd.mono {d:Dk} {n m:Int} (h:Wd d n) (hnm:n≤m):Wd d m:=⟨h.ok,h.len,h.live,h.aft,h.good,by have:=h.st; omega⟩
def syT (cs:List Cel) (t:Nat):List Cel:=(cs.take t).map syC ++ cs.drop t
theorem syT_len (cs:List Cel) (t:Nat):(syT cs t).length=cs.length:=by unfold syT; simp; omega
theorem syT_zero (cs:List Cel):syT cs 0=cs:=by simp [syT]
theorem syT_end (cs:List Cel):syT cs cs.length=cs.map syC:=by simp [syT]
theorem syT_get {cs:List Cel} {t:Nat} (h:t < cs.length):(syT cs t)[t]'(by rw [syT_len]; exact h)=cs[t]:=by
 unfold syT
 have e:((cs.take t).map syC).length=t:=by simp; omega
 rw [List.getElem_append_right (by omega)]
 simp only [e,Nat.sub_self,List.getElem_drop,Nat.add_zero]
theorem syT_succ {cs:List Cel} {t:Nat} (h:t < cs.length):syT cs (t + 1)=(syT cs t).set t (syC cs[t]):=by
 unfold syT
 rw [List.take_succ_eq_append_getElem h,List.map_append,List.set_append_right _ _ (by simp; omega),List.append_assoc]
 congr 1
 have e:t - ((cs.take t).map syC).length=0:=by simp; omega
 rw [e,List.drop_eq_getElem_cons h]
 rfl
end C22
