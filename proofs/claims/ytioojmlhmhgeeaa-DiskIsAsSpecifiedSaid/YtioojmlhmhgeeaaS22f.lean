/-
 Layer 22 (slots): what the calls do,as plain mathematics.
 Conditions: of each law as it says.
-/
import Derived.Test.YtioojmlhmhgeeaaS22e
namespace C22
structure Fnd where
 s:Sec
 at':Int
 good:Bool
 deriving DecidableEq
def Up (d d':Dk) (k:Int):Prop:=Okd d'∧d'.cs.length=d.cs.length∧d'.steps≤d.steps + k
theorem Up.refl {d:Dk} (h:Okd d):Up d d 0:=⟨h,rfl,by omega⟩
theorem Up.trans {d d' d'':Dk} {k k':Int} (h:Up d d' k) (h':Up d' d'' k'):Up d d'' (k + k'):=⟨h'.1,h'.2.1.trans h.2.1,by have:=h.2.2; have:=h'.2.2; omega⟩
theorem Up.mono {d d':Dk} {k k':Int} (h:Up d d' k) (hk:k≤k'):Up d d' k':=⟨h.1,h.2.1,by have:=h.2.2; omega⟩
theorem wr_len (d:Dk) (i:Int) (s:Sec):(wr d i s).1.cs.length=d.cs.length:=by
 unfold wr stp
 split
 · rfl
 · split
   · split<;>simp
   · split<;>simp
theorem sy_len (d:Dk):(sy d).1.cs.length=d.cs.length:=by
 unfold sy stp
 split
 · rfl
 · split
   · split<;>simp
   · split<;>simp
end C22
