/-
 Layer 21 (disk),continued: what the statements write.
 Conditions: of each contract as it says.
-/
import Derived.Test.YtioojmlhmhgeeaaF22i
import Derived.Test.YtioojmlhmhgeeaaS22c
import Derived.Test.YtioojmlhmhgeeaaS22e
namespace Go.Proofs.Ytioojmlhmhgeeaa
open Go Go.E2 C22
set_option linter.unusedSimpArgs false
set_option maxHeartbeats 1000000
structure Wr where
 kind:Int
 a:Int
 b:Int
def eW (x:Wr):D:=.agg [.int .i64 x.kind,.int .i64 x.a,.int .i64 x.b]
attribute [go_sem] eW
@[go_sem] theorem eW_size (x:Wr):sizeOk 3 (eW x)=true:=rfl
@[go_sem] theorem eW_all (l:List Wr):(l.map eW).all (sizeOk 3)=true:=by rw [List.all_eq_true];intro x hx;obtain⟨s,_,rfl⟩:=List.mem_map.1 hx;rfl
def rowsA (xs:List D) (os:List (List Sec)):List As:=List.zipWith (fun x o=>SlA 64 x (o.map eS)) xs os
def OpsA (xs:List D) (os:List (List Sec)):As:=Star (rowsA xs os)
theorem perm_out {α:Type} {l:List α} {i:Nat} (h:i < l.length):l.Perm (l[i]::l.eraseIdx i):=by
 rw [List.eraseIdx_eq_take_drop_succ]
 conv=>lhs;rw [← List.take_append_drop i l,List.drop_eq_getElem_cons h]
 exact List.perm_middle
theorem perm_in {α:Type} {l:List α} {i:Nat} (h:i < l.length) (a:α):(l.set i a).Perm (a::l.eraseIdx i):=by
 rw [List.eraseIdx_eq_take_drop_succ,List.set_eq_take_append_cons_drop,if_pos h]
 exact List.perm_middle
theorem rowsA_set (xs:List D) (os:List (List Sec)) (i:Nat) (x:D) (o:List Sec):rowsA (xs.set i x) (os.set i o)=(rowsA xs os).set i (SlA 64 x (o.map eS)):=by
 unfold rowsA
 apply List.ext_getElem
 · simp
 · intro j h1 h2
   simp only [List.getElem_zipWith,List.getElem_set]
   split<;>rfl
theorem OpsA.out {xs:List D} {os:List (List Sec)} {R:List As} {G:Gh} {i:Nat} (hx:i < xs.length) (ho:i < os.length) (h:Sep (OpsA xs os::R) G):Sep (SlA 64 xs[i] (os[i].map eS)::Star ((rowsA xs os).eraseIdx i)::R) G:=by
 have hl:i < (rowsA xs os).length:=by simp only [rowsA,List.length_zipWith];omega
 have h2:=h.app.perm ((perm_out hl).append_right R)
 have e:(rowsA xs os)[i]=SlA 64 xs[i] (os[i].map eS):=by simp [rowsA]
 rw [e] at h2
 exact h2.cons fun _=>Sep.of_app
theorem OpsA.into {xs:List D} {os:List (List Sec)} {R:List As} {G:Gh} {i:Nat} (hx:i < xs.length) (ho:i < os.length) {x:D} {o:List Sec} (h:Sep (SlA 64 x (o.map eS)::Star ((rowsA xs os).eraseIdx i)::R) G):Sep (OpsA (xs.set i x) (os.set i o)::R) G:=by
 have hl:i < (rowsA xs os).length:=by simp only [rowsA,List.length_zipWith];omega
 have h2:=h.cons fun _=>Sep.app
 have h3:=h2.perm (l':=(rowsA xs os).set i (SlA 64 x (o.map eS)) ++ R) ((perm_in hl _).append_right R).symm
 rw [← rowsA_set] at h3
 exact Sep.of_app h3
end Go.Proofs.Ytioojmlhmhgeeaa
/-
 Layer 21 (disk): the statement DiskKeepsWhatIsSure.
 Conditions: none;every input.
-/
namespace Go.Proofs.Ytioojmlhmhgeeaa
open Go Go.E2 C22
set_option linter.unusedSimpArgs false
set_option maxHeartbeats 1000000
end Go.Proofs.Ytioojmlhmhgeeaa
/-
 Layer 22 (slots): number and make1.
 Conditions: of each contract as it says.
-/
namespace Go.Proofs.Ytioojmlhmhgeeaa
open Go Go.E2 C22
set_option linter.unusedSimpArgs false
set_option maxHeartbeats 1000000
theorem or_u32 {x k:Nat} {b:Nat} (hb:b < 2 ^ k) (hx:x*2 ^ k+b < 4294967296):binD .or (.int .u32 ((x*2 ^ k:Nat):Int)) (.int .u32 (b:Int))=some (.int .u32 ((x*2 ^ k+b:Nat):Int)):=by
 have h:=bv_or 32 (a:=((x*2 ^ k:Nat):Int)) (b:=(b:Int)) (by omega) (by omega) (by omega) (by omega)
 have e:((x*2 ^ k:Nat):Int).toNat ||| (b:Int).toNat=x*2 ^ k+b:=by
  rw [Int.toNat_natCast,Int.toNat_natCast,Nat.mul_comm,Nat.two_pow_add_eq_or_of_lt hb]
 simp only [binD,if_true]
 have hb:IntKind.u32.bits=32:=rfl
 rw [hb,h,e]
 congr 2
 exact wrap_u32 (by omega) (by omega)
theorem or_nat {A b:Nat} (k:Nat) (hA:A % 2 ^ k=0) (hb:b < 2 ^ k) (hx:A+b < 4294967296):binD .or (.int .u32 (A:Int)) (.int .u32 (b:Int))=some (.int .u32 ((A+b:Nat):Int)):=by
 have e:A=(A / 2 ^ k)*2 ^ k:=by
  have:=Nat.div_add_mod A (2 ^ k)
  rw [hA,Nat.add_zero,Nat.mul_comm] at this
  exact this.symm
 have:=or_u32 (x:=A / 2 ^ k) (k:=k) (b:=b) hb (by omega)
 rw [← e] at this
 exact this
theorem number_ok (s:Sec) (a:Nat) (ha:a+3 < 64):CallP Try.prog f_zz55 [eS s,.int .i64 a] (·=.d (.int .u32 (numAt s a))):=by
 refine callP_of_W fol zz55_cp ?_
 have hb:∀ i,i < 64→(List.drop (i*1) (s.1.map eB)).head?=some (.int .u8 (byteAt s i:Int)):=fun i hi=>by
  rw [Nat.mul_one,List.head?_drop,List.getElem?_map,List.getElem?_eq_getElem (by rw [s.2];exact hi),byteAt_get s hi];rfl
 have b0:=hb a (by omega)
 have b1:=hb (a+1) (by omega)
 have b2:=hb (a+2) (by omega)
 have b3:=hb (a+3) (by omega)
 have l0:=byteAt_lt s a
 have l1:=byteAt_lt s (a+1)
 have l2:=byteAt_lt s (a+2)
 have l3:=byteAt_lt s (a+3)
 have t1:((a:Int)+1).toNat=a+1:=by omega
 have t2:((a:Int)+2).toNat=a+2:=by omega
 have t3:((a:Int)+3).toNat=a+3:=by omega
 have o1:=or_nat (A:=byteAt s a*16777216) (b:=byteAt s (a+1)*65536) 24 (by omega) (by omega) (by omega)
 have o2:=or_nat (A:=byteAt s a*16777216+byteAt s (a+1)*65536) (b:=byteAt s (a+2)*256) 16 (by omega) (by omega) (by omega)
 have o3:=or_nat (A:=byteAt s a*16777216+byteAt s (a+1)*65536+byteAt s (a+2)*256) (b:=byteAt s (a+3)) 8 (by omega) (by omega) (by omega)
 simp only [Int.natCast_add,Int.natCast_mul,Int.cast_ofNat_Int] at o1 o2 o3
 refine goS trivial ?_
 refine goR (nn b0 (nn b1 (nn b2 (nn b3 (nn t1 (nn t2 (nn t3 (nn o1 (nn o2 o3))))))))) ?_
 exact Fin.p rfl (iE (by unfold numAt;omega))
theorem wrap_byteI (b:Int):IntKind.u8.wrap b=((byteI b).toNat:Int):=wrap_byte b
def zB (n:Nat):List D:=List.replicate n (.int .u8 0)
def mkT (q:Int):Nat→List D
 | 0=>z0.1.map eB
 | 1=>(qb q).map eB ++ zB 60
 | _=>(qb q).map eB ++ zB 28 ++ (qb q).map eB ++ zB 28
theorem mkT_len (q:Int):∀ t,(mkT q t).length=64
 | 0=>rfl
 | 1=>rfl
 | _+2=>rfl
theorem zB_split {n k:Nat} (h:k≤n):zB n=zB k ++ zB (n - k):=by
 unfold zB
 rw [List.replicate_append_replicate]
 congr 1;omega
theorem map_pad (n:Nat) (l:Str):(pad n l).map eB=l.map eB ++ zB (n - l.length):=by
 unfold pad zB
 rw [List.map_append,List.map_replicate];rfl
theorem mk1_cells (q:Int) (b:Str) (hb:b.length≤55):(mk1 q b).1.map eB=(qb q).map eB ++ ((b.take 28).map eB ++ zB (28 - (b.take 28).length)) ++ (qb q).map eB ++ [eB (UInt8.ofNat b.length)] ++ ((b.drop 28).map eB ++ zB (27 - (b.drop 28).length)):=by
 have h3:(b.drop 28).take 27=b.drop 28:=List.take_of_length_le (by rw [List.length_drop];omega)
 have h1:(pad 28 (b.take 28)).length=28:=pad_len (by simp;omega)
 have h2:(pad 27 (b.drop 28)).length=27:=pad_len (by rw [List.length_drop];omega)
 unfold mk1
 simp only [h3]
 rw [List.take_of_length_le (by simp only [List.length_append,h1,h2,qb,List.length_cons,List.length_nil];omega)]
 simp only [List.map_append,map_pad,List.map_cons,List.map_nil]
theorem put_front (q:Int) (x:D) (b:Str):over ((qb q).map eB ++ zB 28 ++ (qb q).map eB ++ [x] ++ zB 27) ((b.take 28).map eB) 4=(qb q).map eB ++ ((b.take 28).map eB ++ zB (28 - (b.take 28).length)) ++ (qb q).map eB ++ [x] ++ zB 27:=by
 have hk:(b.take 28).length≤28:=by rw [List.length_take];omega
 have e:=over_at (pre:=(qb q).map eB) (mid:=zB (b.take 28).length) (post:=zB (28 - (b.take 28).length) ++ (qb q).map eB ++ [x] ++ zB 27) (ys:=(b.take 28).map eB) (n:=4) rfl (by simp [zB])
 rw [zB_split hk]
 simp only [List.append_assoc] at e ⊢
 exact e
theorem put_back (q:Int) (x:D) (b:Str) (hb:b.length≤55):over ((qb q).map eB ++ ((b.take 28).map eB ++ zB (28 - (b.take 28).length)) ++ (qb q).map eB ++ [x] ++ zB 27) ((b.drop 28).map eB) 37=(qb q).map eB ++ ((b.take 28).map eB ++ zB (28 - (b.take 28).length)) ++ (qb q).map eB ++ [x] ++ ((b.drop 28).map eB ++ zB (27 - (b.drop 28).length)):=by
 have hk:(b.drop 28).length≤27:=by rw [List.length_drop];omega
 have e:=over_at (pre:=(qb q).map eB ++ ((b.take 28).map eB ++ zB (28 - (b.take 28).length)) ++ (qb q).map eB ++ [x]) (mid:=zB (b.drop 28).length) (post:=zB (27 - (b.drop 28).length)) (ys:=(b.drop 28).map eB) (n:=37) (by simp [zB,qb];omega) (by simp [zB])
 rw [zB_split hk]
 simp only [List.append_assoc] at e ⊢
 exact e
theorem make1_ok (q:Int) (h0:0≤q) (h1:q < 4294967296) (b:Str) (hb:b.length≤55):CallP Try.prog f_zz56 [.int .u32 q,.str b] (·=.d (eS (mk1 q b))):=by
 refine CallP.of_deep (callT_of_W fol zz56_cp ?_)
 refine goS trivial ?_
 refine goR trivial ?_
 refine wNew_mk fun g1 hg0=>?_
 refine goS trivial ?_
 refine goR trivial ?_
 refine W.loop (fun n st=>∃ (t:Nat),t≤2∧n=2 - t ∧
  st=(E [(0,.d (.int .u32 q)),(1,.d (.str b)),(4,.ptr 0 4 1 0),(5,.d (.gp g1 0)),(9,.d (.agg [.int .i64 0,.int .i64 32])),(10,.d (.int .i64 t))],HB [(4,⟨1,some (z0.1.map eB)⟩)],[],noGh.set g1 (some (mkT q t))))
  ⟨_,_,stle,0,by omega,rfl,rfl⟩ ?_
 rintro n st ⟨t,ht,rfl,rfl⟩
 refine goR trivial ?_
 refine wG_dec (fun h4=>?_) (fun h4=>?_)
 · have hl:=mkT_len q t
   rcases (by omega:t=0∨t=1) with rfl|rfl
   · refine goR (nn hl wrap_byteI) ?_
     exact⟨_,_,by omega,stle,1,by omega,rfl,rfl⟩
   · have hm:min 32 64=32:=rfl
     have hm1:min 33 32=32:=rfl
     have hm2:min 34 32=32:=rfl
     have hm3:min 35 32=32:=rfl
     have hm4:min 36 32=32:=rfl
     refine goR (nn hl (nn wrap_byteI (nn hm (nn hm1 (nn hm2 (nn hm3 hm4)))))) ?_
     exact⟨_,_,by omega,stle,2,by omega,rfl,rfl⟩
 · obtain rfl:t=2:=by omega
   have hl:=mkT_len q 2
   refine goR (nn hl wrap_byteI) ?_
   have e1:List.take 36 (mkT q 2) ++ [D.int IntKind.u8 ((byteI (b.length:Int)).toNat:Int)] ++ List.drop 37 (mkT q 2)=(qb q).map eB ++ zB 28 ++ (qb q).map eB ++ [eB (UInt8.ofNat b.length)] ++ zB 27:=by
    have:byteI (b.length:Int)=UInt8.ofNat b.length:=by
     unfold byteI
     congr 1
     omega
    rw [this];rfl
   rw [e1]
   have hg1:(noGh.set g1 (some ((qb q).map eB ++ zB 28 ++ (qb q).map eB ++ [eB (UInt8.ofNat b.length)] ++ zB 27))).c g1=some ((qb q).map eB ++ zB 28 ++ (qb q).map eB ++ [eB (UInt8.ofNat b.length)] ++ zB 27):=by simp [upd]
   refine wGd_mk (by simp only [gdD,hg1];rw [if_pos (by simp [zB,qb])]) ?_
   have e2:=put_front q (eB (UInt8.ofNat b.length)) b
   have e3:(List.map (fun u:UInt8=>D.int IntKind.u8 (u.toNat:Int)) (List.take 28 b))=(b.take 28).map eB:=rfl
   rw [Gh.set_set,e3,e2]
   have hg2:(noGh.set g1 (some ((qb q).map eB ++ ((b.take 28).map eB ++ zB (28 - (b.take 28).length)) ++ (qb q).map eB ++ [eB (UInt8.ofNat b.length)] ++ zB 27))).c g1=some ((qb q).map eB ++ ((b.take 28).map eB ++ zB (28 - (b.take 28).length)) ++ (qb q).map eB ++ [eB (UInt8.ofNat b.length)] ++ zB 27):=by simp [upd]
   have hl2:((qb q).map eB ++ ((b.take 28).map eB ++ zB (28 - (b.take 28).length)) ++ (qb q).map eB ++ [eB (UInt8.ofNat b.length)] ++ zB 27).length=64:=by simp [zB,qb];omega
   have e4:=put_back q (eB (UInt8.ofNat b.length)) b hb
   have e5:=mk1_cells q b hb
   rw [← e5] at e4
   generalize (qb q).map eB ++ ((b.take 28).map eB ++ zB (28 - (b.take 28).length)) ++ (qb q).map eB ++ [eB (UInt8.ofNat b.length)] ++ zB 27=c2 at hg2 hl2 e4 ⊢
   have hmn:(min 28 (b.length:Int)).toNat=min 28 b.length:=by omega
   refine goS (nn hl2 hmn) ?_
   refine goR (nn hl2 hmn) ?_
   have e6:List.drop (min 28 b.length) b=b.drop 28:=by
    rcases Nat.le_total b.length 28 with h|h
    · rw [Nat.min_eq_right h,List.drop_length,List.drop_of_length_le h]
    · rw [Nat.min_eq_left h]
   have e7:(List.map (fun u:UInt8=>D.int IntKind.u8 (u.toNat:Int)) (List.take 27 (b.drop 28)))=(b.drop 28).map eB:=by
    rw [List.take_of_length_le (by rw [List.length_drop];omega)];rfl
   rw [e6]
   refine wGd_mk (by simp only [gdD,hg2];rw [if_pos (by omega)]) ?_
   rw [Gh.set_set,e7,e4]
   refine goS trivial ?_
   refine goR trivial ?_
   (apply Fin.eq;(focus (simp -dsimp (disch:=first|omega|(simp only [go_sem];omega)) only [go_sem,seval,Nat.reduceEqDiff,Nat.reduceLeDiff]<;>rfl)))
   exact⟨rfl,_,.refl _,rfl⟩
end Go.Proofs.Ytioojmlhmhgeeaa
