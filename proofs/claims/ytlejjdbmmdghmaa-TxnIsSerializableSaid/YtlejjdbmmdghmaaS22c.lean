/-
 Layer 21 (disk): writes on a disk that is not armed,as plain mathematics.
 Conditions: of each law as it says.
-/
import Derived.Test.YtlejjdbmmdghmaaS22
namespace C22
structure Wd (d:Dk) (n:Int):Prop where
 ok:Okd d
 len:d.cs.length=16
 live:d.dead=false
 aft:d.after=-1
 good:∀ c∈d.cs,c.bad=false
 st:d.steps≤n
theorem Wd.chk {d:Dk} {n:Int} (h:Wd d n) {k:Nat} (hk:k<16):chk d k=0:=by
 unfold C22.chk
 rw [if_neg (by rw [h.live];simp),if_neg (by have:=h.len;omega)]
theorem zi5 {d:Dk} (h:d.after=-1):stp d=({ d with steps:=d.steps+1 },0):=by
 unfold stp
 rw [if_neg (by omega),if_neg (by omega)]
theorem Wd.wr {d:Dk} {n:Int} (h:Wd d n) {k:Nat} (hk:k<16) (s:Sec):wr d k s=({ d with steps:=d.steps+1,cs:=d.cs.modify k fun c=>{ c with op:=c.op++[s] } },0):=by
 unfold C22.wr
 rw [if_neg (by rw [h.chk hk];simp),zi5 h.aft,if_neg (by simp),Int.toNat_natCast]
theorem Wd.sy {d:Dk} {n:Int} (h:Wd d n):sy d=({ d with steps:=d.steps+1,cs:=d.cs.map syC },0):=by
 unfold C22.sy
 rw [if_neg (by rw [h.live];simp),zi5 h.aft,if_neg (by simp)]
theorem Wd.mono {d:Dk} {n m:Int} (h:Wd d n) (hnm:n≤m):Wd d m:=⟨h.ok,h.len,h.live,h.aft,h.good,by have:=h.st;omega⟩
end C22
namespace C22
theorem zst {c:Cel} (h:c.op=[]):zku c=if c.bad=true then (z0,14) else (c.s,0):=by unfold zku;rw [h];rfl
theorem zvi {d:Dk} (hd:d.dead=false) {i:Nat} {c:Cel} (h:d.cs[i]?=some c):rd d i=zku c:=by
 have hl:=(List.getElem?_eq_some_iff.1 h).1
 have hk:chk d i=0:=by unfold chk;rw [if_neg (by rw [hd];simp),if_neg (by omega)]
 unfold rd
 rw [if_neg (by rw [hk];simp),Int.toNat_natCast,h]
section
variable {d:Dk} {n:Int} {i b:Nat}
end
end C22
namespace C22
def zj8 (b:Int):UInt8:=UInt8.ofNat (b % 256).toNat
def qb (q:Int):List UInt8:=[zj8 (q / 16777216),zj8 (q / 65536),zj8 (q / 256),zj8 q]
def pad (n:Nat) (l:Str):Str:=l++List.replicate (n - l.length) 0
theorem zeo {n:Nat} {l:Str} (h:l.length≤n):(pad n l).length=n:=by unfold pad;simp;omega
def mk1 (q:Int) (b:Str):Sec:=⟨(qb q++pad 28 (b.take 28)++qb q++[UInt8.ofNat b.length]++pad 27 ((b.drop 28).take 27)).take 64,by
 have h1:(pad 28 (b.take 28)).length=28:=zeo (by simp;omega)
 have h2:(pad 27 ((b.drop 28).take 27)).length=27:=zeo (by simp;omega)
 simp only [List.length_take,List.length_append,h1,h2,qb,List.length_cons,List.length_nil]
 omega⟩
def zaa (s:Sec) (i:Nat):Nat:=((s.1[i]?).getD 0).toNat
def zbz (s:Sec) (a:Nat):Nat:=zaa s a * 16777216+zaa s (a+1) * 65536+zaa s (a+2) * 256+zaa s (a+3)
theorem zhb (s:Sec) (i:Nat):zaa s i<256:=UInt8.toNat_lt _
theorem zh5 (s:Sec) {i:Nat} (h:i<64):zaa s i=(s.1[i]'(by rw [s.2];exact h)).toNat:=by
 unfold zaa
 rw [List.getElem?_eq_getElem (by rw [s.2];exact h)];rfl
def zd4 (s:Sec):Bool:=decide (zbz s 0=zbz s 32) && decide (1≤zbz s 0) && decide (zaa s 36≤55)
end C22
