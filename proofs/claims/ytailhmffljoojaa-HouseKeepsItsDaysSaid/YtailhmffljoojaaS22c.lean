/-
 Layer 21 (disk): writes on a disk that is not armed,as plain mathematics.
 Conditions: of each law as it says.
-/
import Derived.Test.YtailhmffljoojaaS22
namespace C22
structure Wd (d:Dk) (n:Int):Prop where
 ok:Okd d
 len:d.cs.length=16
 live:d.dead=false
 aft:d.after=-1
 good:∀ c∈d.cs,c.bad=false
 st:d.steps≤n
theorem Wd.chk {d:Dk} {n:Int} (h:Wd d n) {k:Nat} (hk:k<16):chk d k=0:=by
 unfold C22.chk
 rw [if_neg (by rw [h.live];simp),if_neg (by have:=h.len;omega)]
theorem zhz {d:Dk} (h:d.after=-1):stp d=({ d with steps:=d.steps+1 },0):=by
 unfold stp
 rw [if_neg (by omega),if_neg (by omega)]
theorem Wd.wr {d:Dk} {n:Int} (h:Wd d n) {k:Nat} (hk:k<16) (s:Sec):wr d k s=({ d with steps:=d.steps+1,cs:=d.cs.modify k fun c=>{ c with op:=c.op++[s] } },0):=by
 unfold C22.wr
 rw [if_neg (by rw [h.chk hk];simp),zhz h.aft,if_neg (by simp),Int.toNat_natCast]
theorem Wd.sy {d:Dk} {n:Int} (h:Wd d n):sy d=({ d with steps:=d.steps+1,cs:=d.cs.map syC },0):=by
 unfold C22.sy
 rw [if_neg (by rw [h.live];simp),zhz h.aft,if_neg (by simp)]
theorem Wd.mono {d:Dk} {n m:Int} (h:Wd d n) (hnm:n≤m):Wd d m:=⟨h.ok,h.len,h.live,h.aft,h.good,by have:=h.st;omega⟩
end C22
namespace C22
theorem zpg {c:Cel} (h:c.op=[]):zjg c=if c.bad=true then (z0,14) else (c.s,0):=by unfold zjg;rw [h];rfl
theorem zry {d:Dk} (hd:d.dead=false) {i:Nat} {c:Cel} (h:d.cs[i]?=some c):rd d i=zjg c:=by
 have hl:=(List.getElem?_eq_some_iff.1 h).1
 have hk:chk d i=0:=by unfold chk;rw [if_neg (by rw [hd];simp),if_neg (by omega)]
 unfold rd
 rw [if_neg (by rw [hk];simp),Int.toNat_natCast,h]
section
variable {d:Dk} {n:Int} {i b:Nat}
end
end C22
namespace C22
def zi4 (b:Int):UInt8:=UInt8.ofNat (b % 256).toNat
def qb (q:Int):List UInt8:=[zi4 (q / 16777216),zi4 (q / 65536),zi4 (q / 256),zi4 q]
def pad (n:Nat) (l:Str):Str:=l++List.replicate (n - l.length) 0
theorem zd9 {n:Nat} {l:Str} (h:l.length≤n):(pad n l).length=n:=by unfold pad;simp;omega
def mk1 (q:Int) (b:Str):Sec:=⟨(qb q++pad 28 (b.take 28)++qb q++[UInt8.ofNat b.length]++pad 27 ((b.drop 28).take 27)).take 64,by
 have h1:(pad 28 (b.take 28)).length=28:=zd9 (by simp;omega)
 have h2:(pad 27 ((b.drop 28).take 27)).length=27:=zd9 (by simp;omega)
 simp only [List.length_take,List.length_append,h1,h2,qb,List.length_cons,List.length_nil]
 omega⟩
def zz (s:Sec) (i:Nat):Nat:=((s.1[i]?).getD 0).toNat
def zbl (s:Sec) (a:Nat):Nat:=zz s a * 16777216+zz s (a+1) * 65536+zz s (a+2) * 256+zz s (a+3)
theorem zgd (s:Sec) (i:Nat):zz s i<256:=UInt8.toNat_lt _
theorem zg5 (s:Sec) {i:Nat} (h:i<64):zz s i=(s.1[i]'(by rw [s.2];exact h)).toNat:=by
 unfold zz
 rw [List.getElem?_eq_getElem (by rw [s.2];exact h)];rfl
def zdn (s:Sec):Bool:=decide (zbl s 0=zbl s 32) && decide (1≤zbl s 0) && decide (zz s 36≤55)
end C22
