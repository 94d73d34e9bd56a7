/-
 Layer 22 (slots) on a disk that works: what each call does,by what the slots hold.
 Conditions: of each contract as it says.
-/
import Derived.Test.YtlejjdbmmdghmaaF22x
import Derived.Test.YtlejjdbmmdghmaaS52
set_option linter.unusedSimpArgs false
namespace Go.Proofs.Ytlejjdbmmdghmaa
open Go Go.E2 C22
set_option maxHeartbeats 1000000
def zaw (q:Nat) (m:Int) (c:List Str):As:=fun G=>∃ p d,SlD d m c∧zzi [StA q p 0 c.length,zp p d] G
theorem Sep.slt {q:Nat} {m:Int} {c:List Str} {R:List As} {G:Gh} (h:Sep (zaw q m c::R) G):∃ p d,SlD d m c∧Sep (StA q p 0 c.length::zp p d::R) G:=by
 obtain ⟨G1,G2,h1,h2,h3,⟨p,d,hd,h4⟩,h5⟩:=h
 exact ⟨p,d,hd,Sep.app (l:=[_,_]) ⟨G1,G2,h1,h2,h3,h4,h5⟩⟩
theorem Sep.of_slt {q p:Nat} {d:Dk} {m:Int} {c:List Str} {R:List As} {G:Gh} (hd:SlD d m c) (h:Sep (StA q p 0 c.length::zp p d::R) G):Sep (zaw q m c::R) G:=by
 have:=Sep.of_app (l:=[StA q p 0 c.length,zp p d]) h
 exact this.imp fun G hG=>⟨p,d,hd,hG⟩
theorem z03 (q:Nat) (m:Int) (c:List Str) (hm:m≤600000000) (i:Nat) (hi:i<c.length) :
 zy Try.prog f_zz27 [.gp q 0,.int .i64 i] [zaw q m c] (fun r post=>r=.tup [.str c[i],.int .i64 (if c[i]=[] then 8 else 0)]∧post=[zaw q m c]):=by
 intro R G σ hs
 obtain ⟨p,d,hd,h⟩:=Sep.slt hs
 have hl:=hd.len
 have hmo:=hd.lv.ok.most
 refine (z02 q p d 0 c.length i (by omega) (by omega) R G σ h).mono fun r σ' G' ⟨h1,post,⟨h2,h3⟩,h4⟩=>⟨h1,_,⟨?_,rfl⟩,?_⟩
 · rw [h2,hd.get (by omega) hi]
   split
   · rename_i e;rw [e]
   · rfl
 · subst h3;exact Sep.of_slt hd h4
theorem zj7 (q:Nat) (m:Int) (c:List Str) (hm:m≤600000000) (i:Nat) (hi:i<c.length) (b:Str) (h1:1≤b.length) (h2:b.length≤55) :
 zy Try.prog f_zz28 [.gp q 0,.int .i64 i,.str b] [zaw q m c] (fun r post=>r=.d (.int .i64 0)∧post=[zaw q (m+6) (c.set i b)]):=by
 intro R G σ hs
 obtain ⟨p,d,hd,h⟩:=Sep.slt hs
 have hl:=hd.len
 have hmo:=hd.lv.ok.most
 have hst:=hd.lv.st
 obtain ⟨k1,k2⟩:=hd.put hm hi h2 h1
 refine (z5j q p d 0 c.length i b (by omega) (by omega) (by omega) R G σ h).mono fun r σ' G' ⟨h1,post,⟨h2,h3⟩,h4⟩=>⟨h1,_,⟨?_,rfl⟩,?_⟩
 · rw [h2,k1]
 · subst h3;exact Sep.of_slt k2 (by rw [List.length_set];exact h4)
theorem zfs (q:Nat) (m:Int) (c:List Str) (hm:m≤600000000) (i:Nat) (hi:i<c.length) :
 zy Try.prog f_zz20 [.gp q 0,.int .i64 i] [zaw q m c] (fun r post=>r=.d (.int .i64 0)∧post=[zaw q (m+6) (c.set i [])]):=by
 intro R G σ hs
 obtain ⟨p,d,hd,h⟩:=Sep.slt hs
 have hl:=hd.len
 have hmo:=hd.lv.ok.most
 have hst:=hd.lv.st
 obtain ⟨k1,k2⟩:=hd.kill hm hi
 refine (z01 q p d 0 c.length i (by omega) (by omega) (by omega) R G σ h).mono fun r σ' G' ⟨h1,post,⟨h2,h3⟩,h4⟩=>⟨h1,_,⟨?_,rfl⟩,?_⟩
 · rw [h2,k1]
 · subst h3;exact Sep.of_slt k2 (by rw [List.length_set];exact h4)
theorem lvF {n:Nat} (h1:1≤n) (h2:n≤65536):Lv (fresh n) 0:=⟨zn8 h1 h2,rfl,rfl,fun c hc=>by obtain rfl:=(List.mem_replicate.1 hc).2;rfl,by simp [fresh]⟩
theorem zvf (p:Nat) (d:Dk) (m:Int) (hd:Lv d m) (h0:0≤m) (hm:m≤500000000) (n:Nat) (h1:1≤n) (hl:2 * n≤d.cs.length) :
 zy Try.prog f_zz46 [.gp p 0,.int .i64 0,.int .i64 n] [zp p d] (fun r post=>r=.d (.int .i64 0)∧∃ d',SlD d' (m+2 * n+1) (List.replicate n [])∧post=[zp p d']):=by
 intro R G σ hs
 have hst:=hd.st
 obtain ⟨k1,k2⟩:=SlD.fmt hd h0 (by omega) h1 hl
 refine (zn4 p d 0 n (by omega) R G σ hs).mono fun r σ' G' ⟨h1,post,⟨h2,h3⟩,h4⟩=>⟨h1,_,⟨by rw [h2,k1],_,k2,rfl⟩,by subst h3;exact h4⟩
theorem zxt (p:Nat) (d:Dk) (m:Int) (c:List Str) (hd:SlD d m c) (hm:m≤500000000) (h1:1≤c.length) :
 zy Try.prog f_zz52 [.gp p 0,.int .i64 0,.int .i64 c.length] [zp p d] (fun r post=>∃ q,r=.tup [.gp q 0,.list [],.int .i64 0]∧post=[zaw q m c]):=by
 intro R G σ hs
 have hst:=hd.lv.st
 have ho:=hd.opn (by omega) h1
 refine (zxp p d 0 c.length (by omega) R G σ hs).mono fun r σ' G' ⟨h1,post,h2,h4⟩=>⟨h1,?_⟩
 rw [ho] at h2
 rcases h2 with ⟨_,q,h5,h6⟩|⟨h5,_⟩
 · exact ⟨_,⟨q,h5,rfl⟩,by subst h6;exact Sep.of_slt hd h4⟩
 · exact absurd rfl h5
end Go.Proofs.Ytlejjdbmmdghmaa
