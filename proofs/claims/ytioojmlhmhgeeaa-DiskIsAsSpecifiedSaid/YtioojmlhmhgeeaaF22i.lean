/-
 Layer 21 (disk),continued: the reference's Filled and Same.
 Conditions: of each contract as it says.
-/
import Derived.Test.YtioojmlhmhgeeaaF22f
namespace Go.Proofs.Ytioojmlhmhgeeaa
open Go Go.E2 C22
set_option linter.unusedSimpArgs false
set_option maxHeartbeats 1000000
def byteOf (b:Int):UInt8:=UInt8.ofNat (b % 256).toNat
def filled (b:Int):Sec:=⟨List.replicate 64 (byteOf b),by simp⟩
theorem wrap_byte (b:Int):IntKind.u8.wrap b=((byteOf b).toNat:Int):=by
 have h1:0≤b % 256:=Int.emod_nonneg _ (by omega)
 have h2:b % 256 < 256:=Int.emod_lt_of_pos _ (by omega)
 have e:(byteOf b).toNat=(b % 256).toNat:=by
  unfold byteOf
  rw [UInt8.toNat_ofNat']
  exact Nat.mod_eq_of_lt (by omega)
 rw [e,Int.toNat_of_nonneg h1]
 rfl
theorem Filled_ok (b:Int):CallP Try.prog f_zz13 [.int .i64 b] (·=.d (eS (filled b))):=by
 refine callP_of_W fol zz13_cp ?_
 refine goS trivial ?_
 refine goR trivial ?_
 refine W.loop (fun n st=>∃ (k:Nat) (cs:List D),k≤64∧cs.length=64∧cs.take k=List.replicate k (.int .u8 (byteOf b).toNat)∧cs.all D.one=true∧n=64 - k ∧
  st=(E [(0,.d (.int .i64 b)),(2,.ptr 0 2 1 0),(3,.ptr 0 3 1 0),(4,.d (.int .i64 k))],HB [(2,⟨1,some (zr 64 (.int .u8 0))⟩),(3,⟨1,some cs⟩)],[],noGh))
  ⟨_,_,stle,0,zr 64 (.int .u8 0),by omega,rfl,rfl,rfl,rfl,rfl⟩ ?_
 rintro n st ⟨k,cs,hk,hl,ht,ho,rfl,rfl⟩
 refine goR trivial ?_
 refine wG_dec (fun h1=>?_) (fun h1=>?_)
 · have hk':k < 64:=by omega
   (repeat (first|(with_reducible first|refine W.seq ?_|refine W.block ?_)|((with_reducible first|refine W.reg ?_|refine W.skip ?_|refine W.exit ?_|refine W.ret ?_|refine W.ifc ?_); simp -dsimp (disch:=first|omega|(simp only [go_sem]; omega)) only [go_sem,seval,Nat.reduceEqDiff,Nat.reduceLeDiff,wrap_byte,hl,Nat.mul_one])))
   refine wP_mk (by omega) ?_
   simp -dsimp (disch:=first|omega|(simp only [go_sem]; omega)) only [go_sem,seval,Nat.reduceEqDiff,Nat.reduceLeDiff,Nat.mul_one]
   refine goR trivial ?_
   refine ⟨_,_,?_,stle,k + 1,cs.take k ++ [.int .u8 (byteOf b).toNat] ++ cs.drop (k + 1),by omega,?_,?_,?_,rfl,rfl⟩
   · omega
   · rw [List.length_append,List.length_append,List.length_take,List.length_drop,hl,List.length_singleton]; omega
   · rw [ht,← List.replicate_succ',List.take_append_of_le_length (by simp),List.take_of_length_le (by simp)]
   · rw [List.all_eq_true] at ho ⊢
     intro x hx
     rcases List.mem_append.1 hx with hx|hx
     · rcases List.mem_append.1 hx with hx|hx
       · exact ho x (List.mem_of_mem_take hx)
       · rw [List.mem_singleton.1 hx]; rfl
     · exact ho x (List.mem_of_mem_drop hx)
 · obtain rfl:k=64:=by omega
   rw [List.take_of_length_le (by omega)] at ht
   subst ht
   (repeat (first|(with_reducible first|refine W.seq ?_|refine W.block ?_)|((with_reducible first|refine W.reg ?_|refine W.skip ?_|refine W.exit ?_|refine W.ret ?_|refine W.ifc ?_); simp -dsimp (disch:=first|omega|(simp only [go_sem]; omega)) only [go_sem,seval,Nat.reduceEqDiff,Nat.reduceLeDiff,List.take_replicate,List.length_replicate,Nat.mul_one])))
   (apply Fin.eq; (focus (simp -dsimp (disch:=first|omega|(simp only [go_sem]; omega)) only [go_sem,seval,Nat.reduceEqDiff,Nat.reduceLeDiff]<;>rfl)))
   exact ⟨rfl,rfl,rfl⟩
theorem list_ext_up {α:Type} {a b:List α} (hlen:a.length=b.length) (h:∀ i (h1:i < a.length) (h2:i < b.length),a[i]=b[i]):a=b:=List.ext_getElem hlen h
theorem Same_ok (a b:List Int) (hl:a.length≤1000000000) (hl2:b.length≤1000000000):CallP Try.prog f_zz17 [.list (a.map eI),.list (b.map eI)] (·=.d (.bool (decide (a=b)))):=by
 refine callP_of_W fol zz17_cp ?_
 refine goS trivial ?_
 (repeat' (first|(with_reducible first|refine W.seq ?_|refine W.block ?_)|((first|(with_reducible first|refine W.reg ?_|refine W.skip ?_|refine W.exit ?_|refine W.ret ?_|refine W.ifc ?_)|((with_reducible first|refine wG_decE (fun _ hG=>?_) (fun _ hG=>?_)|refine wG_decFE (fun _ hG=>?_) (fun _ hG=>?_))<;>(try simp -dsimp only [hG,decide_true,decide_false,not_true_eq_false,not_false_eq_true])<;>clear hG))<;>(try simp -dsimp (disch:=first|omega|(simp only [go_sem]; omega)) only [go_sem,seval,Nat.reduceEqDiff,Nat.reduceLeDiff]))|simp -dsimp (disch:=first|omega|(simp only [go_sem]; omega)) only [go_sem,seval,Nat.reduceEqDiff,Nat.reduceLeDiff]))
 · exact Fin.p rfl (bF fun e=>by subst e; omega)
 have hlen:a.length=b.length:=by omega
 refine W.loop (fun n st=>∃ k,k≤a.length∧n=a.length - k∧(∀ j (h1:j < a.length) (h2:j < b.length),j < k→a[j]=b[j]) ∧
  st=(E [(0,.d (.list (a.map eI))),(1,.d (.list (b.map eI))),(5,.d (.int .i64 k))],HB [],[],noGh))
  ⟨_,_,stle,0,by omega,rfl,fun _ _ _ h=>by omega,rfl⟩ ?_
 rintro n st ⟨k,hk,rfl,hlo,rfl⟩
 refine goR trivial ?_
 refine wG_dec (fun h1=>?_) (fun h1=>?_)
 · have hk':k < a.length:=by omega
   have hk2:k < b.length:=by omega
   (repeat' (first|(with_reducible first|refine W.seq ?_|refine W.block ?_)|((first|(with_reducible first|refine W.reg ?_|refine W.skip ?_|refine W.exit ?_|refine W.ret ?_|refine W.ifc ?_)|((with_reducible first|refine wG_decE (fun _ hG=>?_) (fun _ hG=>?_)|refine wG_decFE (fun _ hG=>?_) (fun _ hG=>?_))<;>(try simp -dsimp only [hG,decide_true,decide_false,not_true_eq_false,not_false_eq_true])<;>clear hG))<;>(try simp -dsimp (disch:=first|omega|(simp only [go_sem]; omega)) only [go_sem,seval,Nat.reduceEqDiff,Nat.reduceLeDiff,eI_all]))|simp -dsimp (disch:=first|omega|(simp only [go_sem]; omega)) only [go_sem,seval,Nat.reduceEqDiff,Nat.reduceLeDiff,eI_all]))
   · refine Fin.p rfl (bF fun e=>?_)
     subst e
     simp at *
   · refine ⟨_,_,?_,stle,k + 1,?_,rfl,fun j hj hj2 hlt=>?_,rfl⟩
     · omega
     · omega
     · by_cases e:j=k
       · subst e; simp_all
       · exact hlo j hj hj2 (by omega)
 · obtain rfl:k=a.length:=by omega
   refine goR trivial ?_
   exact Fin.p rfl (bT (list_ext_up hlen fun j h1 h2=>hlo j h1 h2 h1))
end Go.Proofs.Ytioojmlhmhgeeaa
/-
 Layer 21 (disk),continued: sanity.
 Conditions: none.
-/
namespace Go.Proofs.Ytioojmlhmhgeeaa
open Go Go.E2 C22
set_option linter.unusedSimpArgs false
set_option maxHeartbeats 1000000
attribute [go_sem] zr_z0
def dA:Dk:=(wr (fresh 4) 2 (filled 1)).1
def dB:Dk:=(wr dA 2 (filled 2)).1
def dC:Dk:=(sy dB).1
def dD:Dk:=(flp dC 2 9).1
def dE:Dk:=(rot dD 2).1
def dF:Dk:=(wr dE 2 (filled 1)).1
def dG:Dk:=arm dF 0
def dH:Dk:=(wr dG 0 (filled 1)).1
theorem wA:(wr (fresh 4) 2 (filled 1)).2=0:=by decide
theorem rA:rd dA 2=(filled 1,0):=by decide
theorem oA:openL dA=[2]:=by decide
theorem wB2:(wr dA 2 (filled 2)).2=0:=by decide
theorem sA:dA.steps≤1000000000:=by decide
theorem sB:dB.steps≤1000000000:=by decide
theorem yB:(sy dB).2=0:=by decide
theorem stC:dC.steps=3:=by decide
theorem fC:(flp dC 2 9).2=0:=by decide
def fS:Sec:=⟨(filled 2).1.set 1 0,by simp [filled]⟩
theorem rD:rd dD 2=(fS,0):=by decide
theorem tD:(rot dD 2).2=0:=by decide
theorem rE:rd dE 2=(z0,14):=by decide
theorem sE:dE.steps≤1000000000:=by decide
theorem wE:(wr dE 2 (filled 1)).2=0:=by decide
theorem rF:rd dF 2=(filled 1,0):=by decide
theorem sG:dG.steps≤1000000000:=by decide
theorem wG2:(wr dG 0 (filled 1)).2=12:=by decide
theorem dnH:dH.dead=true:=by decide
theorem rH:rd dH 0=(z0,12):=by decide
def wants:List Sec:=[z0,filled 1,filled 2,z0,torn (filled 1) (filled 2)]
def wantJ (j:Nat):Sec:=wants.getD j z0
theorem wantC (j:Nat) (h:j < 5):rd (crash dB [(j:Int)]) 2=(wantJ j,if j=3 then 14 else 0)∧(crash dB [(j:Int)]).cs.length=4∧openL (crash dB [(j:Int)])=[]:=by
 have:j=0∨j=1∨j=2∨j=3∨j=4:=by omega
 rcases this with rfl|rfl|rfl|rfl|rfl
 all_goals refine ⟨?_,?_,?_⟩<;>decide
theorem view_low (G:Gh) (g:Nat) (s:Sec) (h:G.c g=some (s.1.map eB)) (cap:Nat):viewC G 1 (.gs g 0 32 cap)=some (32,(s.1.map eB).take 32):=by
 simp only [viewC,h,sec_len]
 simp
theorem sanity21_ok:CallS Try.prog f_zz12 [] [] (fun r post=>r=.d (.bool true)∧post=[]):=by
 refine callS_of_W fol zz12_cp fun R G σ hs=>?_
 have hs:Sep R G:=hs
 refine goS trivial ?_
 (repeat' (first|(with_reducible first|refine W.seq ?_|refine W.block ?_)|((first|(with_reducible first|refine W.reg ?_|refine W.skip ?_|refine W.exit ?_|refine W.ret ?_|refine W.ifc ?_)|(apply wC_P (Filled_ok 1); (focus (simp -dsimp (disch:=first|omega|(simp only [go_sem]; omega)) only [go_sem,seval,Nat.reduceEqDiff,Nat.reduceLeDiff]<;>rfl)); rintro _ rfl)|(apply wC_P (Filled_ok 2); (focus (simp -dsimp (disch:=first|omega|(simp only [go_sem]; omega)) only [go_sem,seval,Nat.reduceEqDiff,Nat.reduceLeDiff]<;>rfl)); rintro _ rfl)|((with_reducible first|refine wG_decE (fun _ hG=>?_) (fun _ hG=>?_)|refine wG_decFE (fun _ hG=>?_) (fun _ hG=>?_))<;>(try simp -dsimp only [hG,decide_true,decide_false,not_true_eq_false,not_false_eq_true])<;>clear hG))<;>(try simp -dsimp (disch:=first|omega|(simp only [go_sem]; omega)) only [go_sem,seval,Nat.reduceEqDiff,Nat.reduceLeDiff]))|simp -dsimp (disch:=first|omega|(simp only [go_sem]; omega)) only [go_sem,seval,Nat.reduceEqDiff,Nat.reduceLeDiff]))
 refine wNew_mk fun g1 hg1=>?_
 refine goS trivial ?_
 refine goR trivial ?_
 have hs1:=Sep.new (cs:=(filled 1).1.map eB) hg1 hs
 generalize G.set g1 (some ((filled 1).1.map eB))=G1 at hs1 ⊢
 (refine goM (New_ok 4 (by omega) (by omega)) ((show Sep ([] ++ (CellA g1 ((filled 1).1.map eB)::R)) G1 from hs1)) ?_)
 rintro _ _ G2 ⟨p,rfl,rfl⟩ hs2
 have hs2:Sep (DiskA p (fresh 4)::CellA g1 ((filled 1).1.map eB)::R) G2:=hs2
 have hg:=hs2.swap.get
 refine goS hg ?_
 refine goR hg ?_
 (refine goM (Write_ok p (fresh 4) 2 (filled 1) (by decide)) (hs2) ?_)
 rintro _ _ G3 ⟨rfl,rfl⟩ hs3
 have hs3:Sep (DiskA p dA::CellA g1 ((filled 1).1.map eB)::R) G3:=hs3
 have hg:=hs3.swap.get
 refine goS wA ?_
 (repeat' (first|(with_reducible first|refine W.seq ?_|refine W.block ?_)|((first|(with_reducible first|refine W.reg ?_|refine W.skip ?_|refine W.exit ?_|refine W.ret ?_|refine W.ifc ?_)|(apply wC_Q ((Read_ok p dA 2).q hs3); (focus (simp -dsimp (disch:=first|omega|(simp only [go_sem]; omega)) only [go_sem,seval,Nat.reduceEqDiff,Nat.reduceLeDiff,rA]<;>rfl)); rintro _ rfl; try simp -dsimp (disch:=first|omega|(simp only [go_sem]; omega)) only [go_sem,seval,Nat.reduceEqDiff,Nat.reduceLeDiff,rA])|((with_reducible first|refine wG_decE (fun _ hG=>?_) (fun _ hG=>?_)|refine wG_decFE (fun _ hG=>?_) (fun _ hG=>?_))<;>(try simp -dsimp only [hG,decide_true,decide_false,not_true_eq_false,not_false_eq_true])<;>clear hG))<;>(try simp -dsimp (disch:=first|omega|(simp only [go_sem]; omega)) only [go_sem,seval,Nat.reduceEqDiff,Nat.reduceLeDiff,rA,hg]))|simp -dsimp (disch:=first|omega|(simp only [go_sem]; omega)) only [go_sem,seval,Nat.reduceEqDiff,Nat.reduceLeDiff,rA,hg]))
 (refine goM (Open_ok p dA (by rw [oA]; decide)) (hs3) ?_)
 rintro _ _ G4 ⟨rfl,rfl⟩ hs4
 have hs4:Sep (DiskA p dA::CellA g1 ((filled 1).1.map eB)::R) G4:=hs4
 have hg:=hs4.swap.get
 refine goS oA ?_
 (repeat' (first|(with_reducible first|refine W.seq ?_|refine W.block ?_)|((first|(with_reducible first|refine W.reg ?_|refine W.skip ?_|refine W.exit ?_|refine W.ret ?_|refine W.ifc ?_)|(apply wC_P (Same_ok [2] [2] (by decide) (by decide)); (focus (simp -dsimp (disch:=first|omega|(simp only [go_sem]; omega)) only [go_sem,seval,Nat.reduceEqDiff,Nat.reduceLeDiff]<;>rfl)); rintro _ rfl)|((with_reducible first|refine wG_decE (fun _ hG=>?_) (fun _ hG=>?_)|refine wG_decFE (fun _ hG=>?_) (fun _ hG=>?_))<;>(try simp -dsimp only [hG,decide_true,decide_false,not_true_eq_false,not_false_eq_true])<;>clear hG))<;>(try simp -dsimp (disch:=first|omega|(simp only [go_sem]; omega)) only [go_sem,seval,Nat.reduceEqDiff,Nat.reduceLeDiff,oA]))|simp -dsimp (disch:=first|omega|(simp only [go_sem]; omega)) only [go_sem,seval,Nat.reduceEqDiff,Nat.reduceLeDiff,oA]))
 (refine goM (Write_ok p dA 2 (filled 2) sA) (hs4) ?_)
 rintro _ _ G5 ⟨rfl,rfl⟩ hs5
 have hs5:Sep (DiskA p dB::CellA g1 ((filled 1).1.map eB)::R) G5:=hs5
 have hg:=hs5.swap.get
 refine goS wB2 ?_
 (repeat' (first|(with_reducible first|refine W.seq ?_|refine W.block ?_)|((first|(with_reducible first|refine W.reg ?_|refine W.skip ?_|refine W.exit ?_|refine W.ret ?_|refine W.ifc ?_)|((with_reducible first|refine wG_decE (fun _ hG=>?_) (fun _ hG=>?_)|refine wG_decFE (fun _ hG=>?_) (fun _ hG=>?_))<;>(try simp -dsimp only [hG,decide_true,decide_false,not_true_eq_false,not_false_eq_true])<;>clear hG))<;>(try simp -dsimp (disch:=first|omega|(simp only [go_sem]; omega)) only [go_sem,seval,Nat.reduceEqDiff,Nat.reduceLeDiff]))|simp -dsimp (disch:=first|omega|(simp only [go_sem]; omega)) only [go_sem,seval,Nat.reduceEqDiff,Nat.reduceLeDiff]))
 refine wNew_mk fun g2 hg2=>?_
 refine goS trivial ?_
 refine goR trivial ?_
 have hs6:=Sep.new (cs:=(filled 2).1.map eB) hg2 hs5
 generalize G5.set g2 (some ((filled 2).1.map eB))=G6 at hs6 ⊢
 refine wCp_mk (m:=32) (cs:=(filled 2).1.map eB) hs6.get (view_low _ _ (filled 1) (hs6.f3.get) _) (by rw [sec_len]; decide) ?_
 have hs7:=hs6.set (cs':=(torn (filled 1) (filled 2)).1.map eB)
 have ec:over ((filled 2).1.map eB) ((((filled 1).1.map eB).take 32).take (min 32 32 * 1)) 32=(torn (filled 1) (filled 2)).1.map eB:=rfl
 rw [ec]
 have hg2:=hs7.get
 have hg1:=hs7.f3.get
 generalize G6.set g2 (some ((torn (filled 1) (filled 2)).1.map eB))=G7 at hs7 hg1 hg2 ⊢
 refine goS (nn hg1 hg2) ?_
 refine goR (nn hg1 hg2) ?_
 refine W.loop (fun n st=>∃ (j:Nat) (b8 b10:Blk) (G:Gh),j≤5∧n=5 - j∧Sep (CellA g2 ((torn (filled 1) (filled 2)).1.map eB)::DiskA p dB::CellA g1 ((filled 1).1.map eB)::R) G ∧
  st=(E [(1,.d (.gp g1 0)),(2,.ptr 0 2 1 0),(3,.d (.gp p 0)),(4,.ptr 0 4 1 0),(62,.own 64 (wants.map eS)),(63,.d (.int .i64 5)),(64,.d (.int .i64 j))],
   HB [(2,⟨1,some ((filled 2).1.map eB)⟩),(4,⟨1,some ((filled 1).1.map eB)⟩),(8,b8),(10,b10)],σ,G))
  ⟨_,_,stleB (HB_pad [(2,_),(4,_)] [8,10] rfl).symm,0,_,_,G7,by omega,rfl,hs7,rfl⟩ ?_
 rintro n st ⟨j,b8,b10,G8,hj,rfl,hs8,rfl⟩
 refine goR trivial ?_
 refine wG_dec (fun h1=>?_) (fun h1=>?_)
 · have hj':j < 5:=by omega
   have hjw:j < wants.length:=hj'
   have hwl:wants.length=5:=rfl
   obtain ⟨w1,w2,w3⟩:=wantC j hj'
   have hww:wants[j]=wantJ j:=by unfold wantJ; rw [List.getD_eq_getElem?_getD,List.getElem?_eq_getElem hjw]; rfl
   refine goR (nn hwl hww) ?_
   (refine goM (Crash_ok p dB [(j:Int)] (by simp)) (hs8.swap) ?_)
   rintro _ _ G9 ⟨q,rfl,rfl⟩ hs9
   have hs9:Sep (DiskA q (crash dB [(j:Int)])::DiskA p dB::CellA g2 ((torn (filled 1) (filled 2)).1.map eB)::CellA g1 ((filled 1).1.map eB)::R) G9:=hs9
   generalize hcd:crash dB [(j:Int)]=dc at *
   have he:((if j=3 then (14:Int) else 0)=14)=((j:Int)=3):=by
    by_cases h3:j=3
    · subst h3; simp
    · rw [if_neg h3]; simp; omega
   refine goS w1 ?_
   (repeat' (first|(with_reducible first|refine W.seq ?_|refine W.block ?_)|((first|(with_reducible first|refine W.reg ?_|refine W.skip ?_|refine W.exit ?_|refine W.ret ?_|refine W.ifc ?_)|(apply wC_Q ((Read_ok q dc 2).q hs9); (focus (simp -dsimp (disch:=first|omega|(simp only [go_sem]; omega)) only [go_sem,seval,Nat.reduceEqDiff,Nat.reduceLeDiff,w1]<;>rfl)); rintro _ rfl; try simp -dsimp (disch:=first|omega|(simp only [go_sem]; omega)) only [go_sem,seval,Nat.reduceEqDiff,Nat.reduceLeDiff,w1])|(apply wC_Q ((Size_ok q dc).q hs9); (focus (simp -dsimp (disch:=first|omega|(simp only [go_sem]; omega)) only [go_sem,seval,Nat.reduceEqDiff,Nat.reduceLeDiff,w2]<;>rfl)); rintro _ rfl; try simp -dsimp (disch:=first|omega|(simp only [go_sem]; omega)) only [go_sem,seval,Nat.reduceEqDiff,Nat.reduceLeDiff,w2])|((with_reducible first|refine wG_decE (fun _ hG=>?_) (fun _ hG=>?_)|refine wG_decFE (fun _ hG=>?_) (fun _ hG=>?_))<;>(try simp -dsimp only [hG,decide_true,decide_false,not_true_eq_false,not_false_eq_true])<;>clear hG))<;>(try simp -dsimp (disch:=first|omega|(simp only [go_sem]; omega)) only [go_sem,seval,Nat.reduceEqDiff,Nat.reduceLeDiff,w1,w2,he,beq_self_eq_true,Bool.not_true]))|simp -dsimp (disch:=first|omega|(simp only [go_sem]; omega)) only [go_sem,seval,Nat.reduceEqDiff,Nat.reduceLeDiff,w1,w2,he,beq_self_eq_true,Bool.not_true]))
   (refine goM (Open_ok q dc (by rw [w3]; decide)) (hs9) ?_)
   rintro _ _ G10 ⟨rfl,rfl⟩ hs10
   have hs10:Sep (DiskA q dc::DiskA p dB::CellA g2 ((torn (filled 1) (filled 2)).1.map eB)::CellA g1 ((filled 1).1.map eB)::R) G10:=hs10
   refine goS w3 ?_
   (repeat' (first|(with_reducible first|refine W.seq ?_|refine W.block ?_)|((first|(with_reducible first|refine W.reg ?_|refine W.skip ?_|refine W.exit ?_|refine W.ret ?_|refine W.ifc ?_)|((with_reducible first|refine wG_decE (fun _ hG=>?_) (fun _ hG=>?_)|refine wG_decFE (fun _ hG=>?_) (fun _ hG=>?_))<;>(try simp -dsimp only [hG,decide_true,decide_false,not_true_eq_false,not_false_eq_true])<;>clear hG))<;>(try simp -dsimp (disch:=first|omega|(simp only [go_sem]; omega)) only [go_sem,seval,Nat.reduceEqDiff,Nat.reduceLeDiff,w3]))|simp -dsimp (disch:=first|omega|(simp only [go_sem]; omega)) only [go_sem,seval,Nat.reduceEqDiff,Nat.reduceLeDiff,w3]))
   refine ⟨_,_,?_,stle,j + 1,_,_,G10,by omega,rfl,hs10.tail.swap,rfl⟩
   omega
 · obtain rfl:j=5:=by omega
   refine goR trivial ?_
   (refine goM (Sync_ok p dB sB) (hs8.swap) ?_)
   rintro _ _ G9 ⟨rfl,rfl⟩ hs9
   have hs9:Sep (DiskA p dC::CellA g2 ((torn (filled 1) (filled 2)).1.map eB)::CellA g1 ((filled 1).1.map eB)::R) G9:=hs9
   refine goS yB ?_
   (repeat' (first|(with_reducible first|refine W.seq ?_|refine W.block ?_)|((first|(with_reducible first|refine W.reg ?_|refine W.skip ?_|refine W.exit ?_|refine W.ret ?_|refine W.ifc ?_)|(apply wC_Q ((Steps_ok p dC).q hs9); (focus (simp -dsimp (disch:=first|omega|(simp only [go_sem]; omega)) only [go_sem,seval,Nat.reduceEqDiff,Nat.reduceLeDiff,stC]<;>rfl)); rintro _ rfl; try simp -dsimp (disch:=first|omega|(simp only [go_sem]; omega)) only [go_sem,seval,Nat.reduceEqDiff,Nat.reduceLeDiff,stC])|((with_reducible first|refine wG_decE (fun _ hG=>?_) (fun _ hG=>?_)|refine wG_decFE (fun _ hG=>?_) (fun _ hG=>?_))<;>(try simp -dsimp only [hG,decide_true,decide_false,not_true_eq_false,not_false_eq_true])<;>clear hG))<;>(try simp -dsimp (disch:=first|omega|(simp only [go_sem]; omega)) only [go_sem,seval,Nat.reduceEqDiff,Nat.reduceLeDiff,stC]))|simp -dsimp (disch:=first|omega|(simp only [go_sem]; omega)) only [go_sem,seval,Nat.reduceEqDiff,Nat.reduceLeDiff,stC]))
   (refine goM (Flip_ok p dC 2 9) (hs9) ?_)
   rintro _ _ G10 ⟨rfl,rfl⟩ hs10
   have hs10:Sep (DiskA p dD::CellA g2 ((torn (filled 1) (filled 2)).1.map eB)::CellA g1 ((filled 1).1.map eB)::R) G10:=hs10
   have e2:List.take 1 ((filled 2).1.map eB) ++ [D.int .u8 0] ++ List.drop 2 ((filled 2).1.map eB)=fS.1.map eB:=rfl
   refine goS fC ?_
   (repeat' (first|(with_reducible first|refine W.seq ?_|refine W.block ?_)|((first|(with_reducible first|refine W.reg ?_|refine W.skip ?_|refine W.exit ?_|refine W.ret ?_|refine W.ifc ?_)|(apply wC_Q ((Read_ok p dD 2).q hs10); (focus (simp -dsimp (disch:=first|omega|(simp only [go_sem]; omega)) only [go_sem,seval,Nat.reduceEqDiff,Nat.reduceLeDiff,rD]<;>rfl)); rintro _ rfl; try simp -dsimp (disch:=first|omega|(simp only [go_sem]; omega)) only [go_sem,seval,Nat.reduceEqDiff,Nat.reduceLeDiff,rD])|((with_reducible first|refine wG_decE (fun _ hG=>?_) (fun _ hG=>?_)|refine wG_decFE (fun _ hG=>?_) (fun _ hG=>?_))<;>(try simp -dsimp only [hG,decide_true,decide_false,not_true_eq_false,not_false_eq_true])<;>clear hG))<;>(try simp -dsimp (disch:=first|omega|(simp only [go_sem]; omega)) only [go_sem,seval,Nat.reduceEqDiff,Nat.reduceLeDiff,rD,e2]))|simp -dsimp (disch:=first|omega|(simp only [go_sem]; omega)) only [go_sem,seval,Nat.reduceEqDiff,Nat.reduceLeDiff,rD,e2]))
   (refine goM (Rot_ok p dD 2) (hs10) ?_)
   rintro _ _ G11 ⟨rfl,rfl⟩ hs11
   have hs11:Sep (DiskA p dE::CellA g2 ((torn (filled 1) (filled 2)).1.map eB)::CellA g1 ((filled 1).1.map eB)::R) G11:=hs11
   have hg:=hs11.f3.get
   refine goS tD ?_
   (repeat' (first|(with_reducible first|refine W.seq ?_|refine W.block ?_)|((first|(with_reducible first|refine W.reg ?_|refine W.skip ?_|refine W.exit ?_|refine W.ret ?_|refine W.ifc ?_)|(apply wC_Q ((Read_ok p dE 2).q hs11); (focus (simp -dsimp (disch:=first|omega|(simp only [go_sem]; omega)) only [go_sem,seval,Nat.reduceEqDiff,Nat.reduceLeDiff,rE]<;>rfl)); rintro _ rfl; try simp -dsimp (disch:=first|omega|(simp only [go_sem]; omega)) only [go_sem,seval,Nat.reduceEqDiff,Nat.reduceLeDiff,rE])|((with_reducible first|refine wG_decE (fun _ hG=>?_) (fun _ hG=>?_)|refine wG_decFE (fun _ hG=>?_) (fun _ hG=>?_))<;>(try simp -dsimp only [hG,decide_true,decide_false,not_true_eq_false,not_false_eq_true])<;>clear hG))<;>(try simp -dsimp (disch:=first|omega|(simp only [go_sem]; omega)) only [go_sem,seval,Nat.reduceEqDiff,Nat.reduceLeDiff,rE,hg]))|simp -dsimp (disch:=first|omega|(simp only [go_sem]; omega)) only [go_sem,seval,Nat.reduceEqDiff,Nat.reduceLeDiff,rE,hg]))
   (refine goM (Write_ok p dE 2 (filled 1) sE) (hs11) ?_)
   rintro _ _ G12 ⟨rfl,rfl⟩ hs12
   have hs12:Sep (DiskA p dF::CellA g2 ((torn (filled 1) (filled 2)).1.map eB)::CellA g1 ((filled 1).1.map eB)::R) G12:=hs12
   have hg:=hs12.f3.get
   refine goS wE ?_
   (repeat' (first|(with_reducible first|refine W.seq ?_|refine W.block ?_)|((first|(with_reducible first|refine W.reg ?_|refine W.skip ?_|refine W.exit ?_|refine W.ret ?_|refine W.ifc ?_)|(apply wC_Q ((Read_ok p dF 2).q hs12); (focus (simp -dsimp (disch:=first|omega|(simp only [go_sem]; omega)) only [go_sem,seval,Nat.reduceEqDiff,Nat.reduceLeDiff,rF]<;>rfl)); rintro _ rfl; try simp -dsimp (disch:=first|omega|(simp only [go_sem]; omega)) only [go_sem,seval,Nat.reduceEqDiff,Nat.reduceLeDiff,rF])|((with_reducible first|refine wG_decE (fun _ hG=>?_) (fun _ hG=>?_)|refine wG_decFE (fun _ hG=>?_) (fun _ hG=>?_))<;>(try simp -dsimp only [hG,decide_true,decide_false,not_true_eq_false,not_false_eq_true])<;>clear hG))<;>(try simp -dsimp (disch:=first|omega|(simp only [go_sem]; omega)) only [go_sem,seval,Nat.reduceEqDiff,Nat.reduceLeDiff,rF,hg]))|simp -dsimp (disch:=first|omega|(simp only [go_sem]; omega)) only [go_sem,seval,Nat.reduceEqDiff,Nat.reduceLeDiff,rF,hg]))
   (refine goM (Arm_ok p dF 0 (by decide)) (hs12) ?_)
   rintro _ _ G13 rfl hs13
   have hs13:Sep (DiskA p dG::CellA g2 ((torn (filled 1) (filled 2)).1.map eB)::CellA g1 ((filled 1).1.map eB)::R) G13:=hs13
   have hg:=hs13.f3.get
   refine goS hg ?_
   (repeat' (first|(with_reducible first|refine W.seq ?_|refine W.block ?_)|((first|(with_reducible first|refine W.reg ?_|refine W.skip ?_|refine W.exit ?_|refine W.ret ?_|refine W.ifc ?_)|((with_reducible first|refine wG_decE (fun _ hG=>?_) (fun _ hG=>?_)|refine wG_decFE (fun _ hG=>?_) (fun _ hG=>?_))<;>(try simp -dsimp only [hG,decide_true,decide_false,not_true_eq_false,not_false_eq_true])<;>clear hG))<;>(try simp -dsimp (disch:=first|omega|(simp only [go_sem]; omega)) only [go_sem,seval,Nat.reduceEqDiff,Nat.reduceLeDiff,hg]))|simp -dsimp (disch:=first|omega|(simp only [go_sem]; omega)) only [go_sem,seval,Nat.reduceEqDiff,Nat.reduceLeDiff,hg]))
   (refine goM (Write_ok p dG 0 (filled 1) sG) (hs13) ?_)
   rintro _ _ G14 ⟨rfl,rfl⟩ hs14
   have hs14:Sep (DiskA p dH::CellA g2 ((torn (filled 1) (filled 2)).1.map eB)::CellA g1 ((filled 1).1.map eB)::R) G14:=hs14
   refine goS wG2 ?_
   (repeat' (first|(with_reducible first|refine W.seq ?_|refine W.block ?_)|((first|(with_reducible first|refine W.reg ?_|refine W.skip ?_|refine W.exit ?_|refine W.ret ?_|refine W.ifc ?_)|(apply wC_Q ((Down_ok p dH).q hs14); (focus (simp -dsimp (disch:=first|omega|(simp only [go_sem]; omega)) only [go_sem,seval,Nat.reduceEqDiff,Nat.reduceLeDiff,dnH]<;>rfl)); rintro _ rfl; try simp -dsimp (disch:=first|omega|(simp only [go_sem]; omega)) only [go_sem,seval,Nat.reduceEqDiff,Nat.reduceLeDiff,dnH])|(apply wC_Q ((Read_ok p dH 0).q hs14); (focus (simp -dsimp (disch:=first|omega|(simp only [go_sem]; omega)) only [go_sem,seval,Nat.reduceEqDiff,Nat.reduceLeDiff,rH]<;>rfl)); rintro _ rfl; try simp -dsimp (disch:=first|omega|(simp only [go_sem]; omega)) only [go_sem,seval,Nat.reduceEqDiff,Nat.reduceLeDiff,rH])|((with_reducible first|refine wG_decE (fun _ hG=>?_) (fun _ hG=>?_)|refine wG_decFE (fun _ hG=>?_) (fun _ hG=>?_))<;>(try simp -dsimp only [hG,decide_true,decide_false,not_true_eq_false,not_false_eq_true])<;>clear hG))<;>(try simp -dsimp (disch:=first|omega|(simp only [go_sem]; omega)) only [go_sem,seval,Nat.reduceEqDiff,Nat.reduceLeDiff,dnH,rH]))|simp -dsimp (disch:=first|omega|(simp only [go_sem]; omega)) only [go_sem,seval,Nat.reduceEqDiff,Nat.reduceLeDiff,dnH,rH]))
   exact Fin.eq rfl ⟨rfl,_,⟨rfl,rfl⟩,hs14.tail.tail.tail⟩
end Go.Proofs.Ytioojmlhmhgeeaa
