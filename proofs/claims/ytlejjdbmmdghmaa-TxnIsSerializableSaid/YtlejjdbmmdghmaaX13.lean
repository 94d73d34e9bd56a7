/-
 Layer 40 (txn): the law's world: begin,SameList,state.
 Conditions: of each contract as it says.
-/
import Derived.Test.YtlejjdbmmdghmaaX9
import Derived.Test.YtlejjdbmmdghmaaY1
set_option linter.unusedSimpArgs false
namespace Go.Proofs.Ytlejjdbmmdghmaa
open Go Go.E2 C22 C40
set_option maxHeartbeats 1000000
abbrev z8:List D:=[.int .i64 0,.str [],.int .i64 0,.str [],.int .i64 0,.str [],.int .i64 0,.str []]
def st8 (V0 V1:List Vl):Nat→List D
 | 0=>[.int .i64 0,.str [],.int .i64 0,.str [],.int .i64 0,.str [],.int .i64 0,.str []]
 | 1=>[.int .i64 (vl V0 0).1,.str (vl V0 0).2,.int .i64 0,.str [],.int .i64 0,.str [],.int .i64 0,.str []]
 | 2=>[.int .i64 (vl V0 0).1,.str (vl V0 0).2,.int .i64 (vl V0 1).1,.str (vl V0 1).2,.int .i64 0,.str [],.int .i64 0,.str []]
 | 3=>[.int .i64 (vl V0 0).1,.str (vl V0 0).2,.int .i64 (vl V0 1).1,.str (vl V0 1).2,.int .i64 (vl V1 0).1,.str (vl V1 0).2,.int .i64 0,.str []]
 | _=>[.int .i64 (vl V0 0).1,.str (vl V0 0).2,.int .i64 (vl V0 1).1,.str (vl V0 1).2,.int .i64 (vl V1 0).1,.str (vl V1 0).2,.int .i64 (vl V1 1).1,.str (vl V1 1).2]
@[go_sem] theorem vi20 (a b:Nat):zc1 1 (some (.list [.gp a 0,.gp b 0])) (.d (.int .i64 0))=some (.cptr [.gp a 0]):=rfl
@[go_sem] theorem vi21 (a b:Nat):zc1 1 (some (.list [.gp a 0,.gp b 0])) (.d (.int .i64 1))=some (.cptr [.gp b 0]):=rfl
theorem zx7 (wb p0 p1 p2 kb s0 s1:Nat) (m:Int) (c0 c1:List Str) (ws0 ws1:List (Int×Wr)) (V0 V1:List Vl) (hm:m≤600000000) (g0:zgn 2 c0 ws0 V0) (g1:zgn 2 c1 ws1 V1) :
 zy Try.prog f_zz8 [.gp wb 0] [WoA wb p0 p1 p2 kb s0 s1,zbq s0 2 m c0 ws0,zbq s1 2 m c1 ws1]
  (fun r post=>r=.tup [.agg (st8 V0 V1 4),.bool true]∧post=[WoA wb p0 p1 p2 kb s0 s1,zbq s0 2 m c0 ws0,zbq s1 2 m c1 ws1]):=by
 refine zf fol zz8_cp fun R G σ hs=>?_
 have hs:Sep (WoA wb p0 p1 p2 kb s0 s1::zbq s0 2 m c0 ws0::zbq s1 2 m c1 ws1::R) G:=hs
 have hg:=Sep.get (b:=wb) (cs:=[.gp p0 0,.gp p1 0,.gp p2 0,.gp kb 0,.list [.gp s0 0,.gp s1 0]]) hs
 refine goS trivial ?_
 refine goR hg ?_
 refine W.loop (fun z st=>∃ (i:Nat) (b8:Blk) (G:Gh),z+i=2∧Sep (WoA wb p0 p1 p2 kb s0 s1::zbq s0 2 m c0 ws0::zbq s1 2 m c1 ws1::R) G ∧
  st=(E [(2,.ptr 0 2 1 0),(4,.ptr 0 4 1 0),(13,.d (.list [.gp s0 0,.gp s1 0])),(14,.d (.int .i64 2)),(15,.d (.int .i64 (i:Nat)))],HB [(2,⟨1,some z8⟩),(4,⟨1,some (st8 V0 V1 (2 * i))⟩),(8,b8)],σ,G))
  ⟨_,_,zt (zdr [(2,⟨1,some z8⟩),(4,⟨1,some z8⟩)] [8] rfl).symm,0,_,G,rfl,hs,rfl⟩ ?_
 rintro z0 st ⟨i,b8,G,hi,h1,rfl⟩
 rcases (by omega:i=0∨i=1∨i=2) with rfl|rfl|rfl<;>simp only [st8]
 rotate_left 2
 · refine goR trivial ?_
   exact Fin.eq rfl ⟨rfl,_,⟨rfl,rfl⟩,h1⟩
 · refine goR trivial ?_
   refine W.loop (fun z st=>∃ (k:Nat) (b8:Blk) (G:Gh),z+k=2∧Sep (WoA wb p0 p1 p2 kb s0 s1::zbq s0 2 m c0 ws0::zbq s1 2 m c1 ws1::R) G ∧
    st=(E [(2,.ptr 0 2 1 0),(4,.ptr 0 4 1 0),(5,.d (.int .i64 0)),(6,.d (.gp s0 0)),(13,.d (.list [.gp s0 0,.gp s1 0])),(14,.d (.int .i64 2)),(15,.d (.int .i64 0)),(20,.d (.int .i64 (k:Nat)))],HB [(2,⟨1,some z8⟩),(4,⟨1,some (st8 V0 V1 (2 * 0+k))⟩),(8,b8)],σ,G))
    ⟨_,_,zt rfl,0,_,G,rfl,h1,rfl⟩ ?_
   rintro z st ⟨k,b8',G,hk,h2,rfl⟩
   rcases (by omega:k=0∨k=1∨k=2) with rfl|rfl|rfl<;>simp only [st8]
   · have hget:=zkb s0 2 m c0 ws0 hm (by omega) g0.len (fun b hb=>by have:=g0.fit b hb;omega) 0
     rw [g0.getR,if_neg (by omega)] at hget
     have h3:Sep (zbq s0 2 m c0 ws0::WoA wb p0 p1 p2 kb s0 s1::zbq s1 2 m c1 ws1::R) G:=h2.swap
     refine goR trivial ?_
     (refine goM (hget) (h3) ?_)
     rintro _ _ G2 ⟨rfl,rfl⟩ h4
     have h5:Sep (WoA wb p0 p1 p2 kb s0 s1::zbq s0 2 m c0 ws0::zbq s1 2 m c1 ws1::R) G2:=Sep.swap h4
     refine goS trivial ?_
     refine goR trivial ?_
     exact ⟨z - 1,_,by omega,zt rfl,1,_,_,by omega,h5,rfl⟩
   · have hget:=zkb s0 2 m c0 ws0 hm (by omega) g0.len (fun b hb=>by have:=g0.fit b hb;omega) 1
     rw [g0.getR,if_neg (by omega)] at hget
     have h3:Sep (zbq s0 2 m c0 ws0::WoA wb p0 p1 p2 kb s0 s1::zbq s1 2 m c1 ws1::R) G:=h2.swap
     refine goR trivial ?_
     (refine goM (hget) (h3) ?_)
     rintro _ _ G2 ⟨rfl,rfl⟩ h4
     have h5:Sep (WoA wb p0 p1 p2 kb s0 s1::zbq s0 2 m c0 ws0::zbq s1 2 m c1 ws1::R) G2:=Sep.swap h4
     refine goS trivial ?_
     refine goR trivial ?_
     exact ⟨z - 1,_,by omega,zt rfl,2,_,_,by omega,h5,rfl⟩
   · refine goR trivial ?_
     exact ⟨z0 - 1,_,by omega,zt rfl,1,_,_,by omega,h2,rfl⟩
 · refine goR trivial ?_
   refine W.loop (fun z st=>∃ (k:Nat) (b8:Blk) (G:Gh),z+k=2∧Sep (WoA wb p0 p1 p2 kb s0 s1::zbq s0 2 m c0 ws0::zbq s1 2 m c1 ws1::R) G ∧
    st=(E [(2,.ptr 0 2 1 0),(4,.ptr 0 4 1 0),(5,.d (.int .i64 1)),(6,.d (.gp s1 0)),(13,.d (.list [.gp s0 0,.gp s1 0])),(14,.d (.int .i64 2)),(15,.d (.int .i64 1)),(20,.d (.int .i64 (k:Nat)))],HB [(2,⟨1,some z8⟩),(4,⟨1,some (st8 V0 V1 (2 * 1+k))⟩),(8,b8)],σ,G))
    ⟨_,_,zt rfl,0,_,G,rfl,h1,rfl⟩ ?_
   rintro z st ⟨k,b8',G,hk,h2,rfl⟩
   rcases (by omega:k=0∨k=1∨k=2) with rfl|rfl|rfl<;>simp only [st8]
   · have hget:=zkb s1 2 m c1 ws1 hm (by omega) g1.len (fun b hb=>by have:=g1.fit b hb;omega) 0
     rw [g1.getR,if_neg (by omega)] at hget
     have h3:Sep (zbq s1 2 m c1 ws1::WoA wb p0 p1 p2 kb s0 s1::zbq s0 2 m c0 ws0::R) G:=h2.perm pp
     refine goR trivial ?_
     (refine goM (hget) (h3) ?_)
     rintro _ _ G2 ⟨rfl,rfl⟩ h4
     have h4:Sep (zbq s1 2 m c1 ws1::WoA wb p0 p1 p2 kb s0 s1::zbq s0 2 m c0 ws0::R) G2:=h4
     have h5:Sep (WoA wb p0 p1 p2 kb s0 s1::zbq s0 2 m c0 ws0::zbq s1 2 m c1 ws1::R) G2:=h4.perm pp
     refine goS trivial ?_
     refine goR trivial ?_
     exact ⟨z - 1,_,by omega,zt rfl,1,_,_,by omega,h5,rfl⟩
   · have hget:=zkb s1 2 m c1 ws1 hm (by omega) g1.len (fun b hb=>by have:=g1.fit b hb;omega) 1
     rw [g1.getR,if_neg (by omega)] at hget
     have h3:Sep (zbq s1 2 m c1 ws1::WoA wb p0 p1 p2 kb s0 s1::zbq s0 2 m c0 ws0::R) G:=h2.perm pp
     refine goR trivial ?_
     (refine goM (hget) (h3) ?_)
     rintro _ _ G2 ⟨rfl,rfl⟩ h4
     have h4:Sep (zbq s1 2 m c1 ws1::WoA wb p0 p1 p2 kb s0 s1::zbq s0 2 m c0 ws0::R) G2:=h4
     have h5:Sep (WoA wb p0 p1 p2 kb s0 s1::zbq s0 2 m c0 ws0::zbq s1 2 m c1 ws1::R) G2:=h4.perm pp
     refine goS trivial ?_
     refine goR trivial ?_
     exact ⟨z - 1,_,by omega,zt rfl,2,_,_,by omega,h5,rfl⟩
   · refine goR trivial ?_
     exact ⟨z0 - 1,_,by omega,zt rfl,2,_,_,by omega,h2,rfl⟩
end Go.Proofs.Ytlejjdbmmdghmaa
