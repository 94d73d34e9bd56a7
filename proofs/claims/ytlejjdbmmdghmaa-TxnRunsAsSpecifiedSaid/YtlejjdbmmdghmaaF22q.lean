/-
 Layer 22 (slots): number and make1.
 Conditions: of each contract as it says.
-/
import Derived.Test.YtlejjdbmmdghmaaF22c
set_option linter.unusedSimpArgs false
namespace Go.Proofs.Ytlejjdbmmdghmaa
open Go Go.E2 C22
set_option maxHeartbeats 1000000
attribute [go_sem] zr_z0
theorem z5l {x k:Nat} {b:Nat} (hb:b<2 ^ k) (hx:x * 2 ^ k+b<4294967296):zb6 .or (.int .u32 ((x * 2 ^ k:Nat):Int)) (.int .u32 (b:Int))=some (.int .u32 ((x * 2 ^ k+b:Nat):Int)):=by
 have h:=zxy 32 (a:=((x * 2 ^ k:Nat):Int)) (b:=(b:Int)) (by omega) (by omega) (by omega) (by omega)
 have e:((x * 2 ^ k:Nat):Int).toNat ||| (b:Int).toNat=x * 2 ^ k+b:=by
  rw [Int.toNat_natCast,Int.toNat_natCast,Nat.mul_comm,Nat.two_pow_add_eq_or_of_lt hb]
 simp only [zb6,if_true]
 have hb:IntKind.u32.bits=32:=rfl
 rw [hb,h,e]
 congr 2
 exact zqv (by omega) (by omega)
theorem zvl {A b:Nat} (k:Nat) (hA:A % 2 ^ k=0) (hb:b<2 ^ k) (hx:A+b<4294967296):zb6 .or (.int .u32 (A:Int)) (.int .u32 (b:Int))=some (.int .u32 ((A+b:Nat):Int)):=by
 have e:A=(A / 2 ^ k) * 2 ^ k:=by
  have:=Nat.div_add_mod A (2 ^ k)
  rw [hA,Nat.add_zero,Nat.mul_comm] at this
  exact this.symm
 have:=z5l (x:=A / 2 ^ k) (k:=k) (b:=b) hb (by omega)
 rw [← e] at this
 exact this
theorem zdp (s:Sec) (a:Nat) (ha:a+3<64):zba Try.prog f_zz58 [eS s,.int .i64 a] (·=.d (.int .u32 (zch s a))):=by
 refine zal fol zz58_cp ?_
 have hb:∀ i,i<64→(List.drop (i * 1) (s.1.map eB)).head?=some (.int .u8 (zaa s i:Int)):=fun i hi=>by
  rw [Nat.mul_one,List.head?_drop,List.getElem?_map,List.getElem?_eq_getElem (by rw [s.2];exact hi),zh7 s hi];rfl
 have b0:=hb a (by omega)
 have b1:=hb (a+1) (by omega)
 have b2:=hb (a+2) (by omega)
 have b3:=hb (a+3) (by omega)
 have l0:=zhe s a
 have l1:=zhe s (a+1)
 have l2:=zhe s (a+2)
 have l3:=zhe s (a+3)
 have t1:((a:Int)+1).toNat=a+1:=by omega
 have t2:((a:Int)+2).toNat=a+2:=by omega
 have t3:((a:Int)+3).toNat=a+3:=by omega
 have o1:=zvl (A:=zaa s a * 16777216) (b:=zaa s (a+1) * 65536) 24 (by omega) (by omega) (by omega)
 have o2:=zvl (A:=zaa s a * 16777216+zaa s (a+1) * 65536) (b:=zaa s (a+2) * 256) 16 (by omega) (by omega) (by omega)
 have o3:=zvl (A:=zaa s a * 16777216+zaa s (a+1) * 65536+zaa s (a+2) * 256) (b:=zaa s (a+3)) 8 (by omega) (by omega) (by omega)
 simp only [Int.natCast_add,Int.natCast_mul,Int.cast_ofNat_Int] at o1 o2 o3
 refine goS trivial ?_
 refine goR (nn b0 (nn b1 (nn b2 (nn b3 (nn t1 (nn t2 (nn t3 (nn o1 (nn o2 o3))))))))) ?_
 exact Fin.p rfl (iE (by unfold zch;omega))
theorem zh8 (b:Int):IntKind.u8.wrap b=((zkb b).toNat:Int) :=by
 unfold zkb
 rw [UInt8.toNat_ofNat']
 have e:IntKind.u8.wrap b=b % 256:=rfl
 rw [e]
 omega
def zB (n:Nat):List D:=List.replicate n (.int .u8 0)
def mkT (q:Int):Nat→List D
 | 0=>z0.1.map eB
 | 1=>(qb q).map eB++zB 60
 | _=>(qb q).map eB++zB 28++(qb q).map eB++zB 28
theorem zvm (q:Int):∀ t,(mkT q t).length=64
 | 0=>rfl
 | 1=>rfl
 | _+2=>rfl
theorem zrd {n k:Nat} (h:k≤n):zB n=zB k++zB (n - k):=by
 unfold zB
 rw [List.replicate_append_replicate]
 congr 1;omega
theorem z1c (n:Nat) (l:Str):(pad n l).map eB=l.map eB++zB (n - l.length):=by
 unfold pad zB
 rw [List.map_append,List.map_replicate];rfl
theorem zvn (q:Int) (b:Str) (hb:b.length≤55):(mk1 q b).1.map eB=(qb q).map eB++((b.take 28).map eB++zB (28 - (b.take 28).length))++(qb q).map eB++[eB (UInt8.ofNat b.length)]++((b.drop 28).map eB++zB (27 - (b.drop 28).length)):=by
 have h3:(b.drop 28).take 27=b.drop 28:=List.take_of_length_le (by rw [List.length_drop];omega)
 have h1:(pad 28 (b.take 28)).length=28:=zer (by simp;omega)
 have h2:(pad 27 (b.drop 28)).length=27:=zer (by rw [List.length_drop];omega)
 unfold mk1
 simp only [h3]
 rw [List.take_of_length_le (by simp only [List.length_append,h1,h2,qb,List.length_cons,List.length_nil];omega)]
 simp only [List.map_append,z1c,List.map_cons,List.map_nil]
theorem zvo (q:Int) (x:D) (b:Str):zbv ((qb q).map eB++zB 28++(qb q).map eB++[x]++zB 27) ((b.take 28).map eB) 4=(qb q).map eB++((b.take 28).map eB++zB (28 - (b.take 28).length))++(qb q).map eB++[x]++zB 27:=by
 have hk:(b.take 28).length≤28:=by rw [List.length_take];omega
 have e:=zup (pre:=(qb q).map eB) (mid:=zB (b.take 28).length) (post:=zB (28 - (b.take 28).length)++(qb q).map eB++[x]++zB 27) (ys:=(b.take 28).map eB) (n:=4) rfl (by simp [zB])
 rw [zrd hk]
 simp only [List.append_assoc] at e ⊢
 exact e
theorem zx9 (q:Int) (x:D) (b:Str) (hb:b.length≤55):zbv ((qb q).map eB++((b.take 28).map eB++zB (28 - (b.take 28).length))++(qb q).map eB++[x]++zB 27) ((b.drop 28).map eB) 37=(qb q).map eB++((b.take 28).map eB++zB (28 - (b.take 28).length))++(qb q).map eB++[x]++((b.drop 28).map eB++zB (27 - (b.drop 28).length)):=by
 have hk:(b.drop 28).length≤27:=by rw [List.length_drop];omega
 have e:=zup (pre:=(qb q).map eB++((b.take 28).map eB++zB (28 - (b.take 28).length))++(qb q).map eB++[x]) (mid:=zB (b.drop 28).length) (post:=zB (27 - (b.drop 28).length)) (ys:=(b.drop 28).map eB) (n:=37) (by simp [zB,qb];omega) (by simp [zB])
 rw [zrd hk]
 simp only [List.append_assoc] at e ⊢
 exact e
theorem zml (q:Int) (h0:0≤q) (_h1:q<4294967296) (b:Str) (hb:b.length≤55):zba Try.prog f_zz62 [.int .u32 q,.str b] (·=.d (eS (mk1 q b))):=by
 refine zba.of_deep (zap fol zz62_cp ?_)
 refine goS trivial ?_
 refine goR trivial ?_
 refine zam fun g1 hg0=>?_
 refine goS trivial ?_
 refine goR trivial ?_
 refine W.loop (fun n st=>∃ (t:Nat),t≤2∧n=2 - t ∧
  st=(E [(0,.d (.int .u32 q)),(1,.d (.str b)),(4,.ptr 0 4 1 0),(5,.d (.gp g1 0)),(9,.d (.agg [.int .i64 0,.int .i64 32])),(10,.d (.int .i64 t))],HB [(4,⟨1,some (z0.1.map eB)⟩)],[],zdi.set g1 (some (mkT q t))))
  ⟨_,_,zb7,0,by omega,rfl,rfl⟩ ?_
 rintro n st ⟨t,ht,rfl,rfl⟩
 refine goR trivial ?_
 refine zns (fun h4=>?_) (fun h4=>?_)
 · have hl:=zvm q t
   rcases (by omega:t=0∨t=1) with rfl|rfl
   · refine goR (nn hl zh8) ?_
     exact ⟨_,_,by omega,zb7,1,by omega,rfl,rfl⟩
   · have hm:min 32 64=32:=rfl
     have hm1:min 33 32=32:=rfl
     have hm2:min 34 32=32:=rfl
     have hm3:min 35 32=32:=rfl
     have hm4:min 36 32=32:=rfl
     refine goR (nn hl (nn zh8 (nn hm (nn hm1 (nn hm2 (nn hm3 hm4)))))) ?_
     exact ⟨_,_,by omega,zb7,2,by omega,rfl,rfl⟩
 · obtain rfl:t=2:=by omega
   have hl:=zvm q 2
   refine goR (nn hl zh8) ?_
   have e1:List.take 36 (mkT q 2)++[D.int IntKind.u8 ((zkb (b.length:Int)).toNat:Int)]++List.drop 37 (mkT q 2)=(qb q).map eB++zB 28++(qb q).map eB++[eB (UInt8.ofNat b.length)]++zB 27:=by
    have:zkb (b.length:Int)=UInt8.ofNat b.length:=by
     unfold zkb
     congr 1
     omega
    rw [this];rfl
   rw [e1]
   have hg1:(zdi.set g1 (some ((qb q).map eB++zB 28++(qb q).map eB++[eB (UInt8.ofNat b.length)]++zB 27))).c g1=some ((qb q).map eB++zB 28++(qb q).map eB++[eB (UInt8.ofNat b.length)]++zB 27):=by simp [upd]
   refine zjx (by simp only [gdD,hg1];rw [if_pos (by simp [zB,qb])]) ?_
   have e2:=zvo q (eB (UInt8.ofNat b.length)) b
   have e3:(List.map (fun u:UInt8=>D.int IntKind.u8 (u.toNat:Int)) (List.take 28 b))=(b.take 28).map eB:=rfl
   rw [Gh.set_set,e3,e2]
   have hg2:(zdi.set g1 (some ((qb q).map eB++((b.take 28).map eB++zB (28 - (b.take 28).length))++(qb q).map eB++[eB (UInt8.ofNat b.length)]++zB 27))).c g1=some ((qb q).map eB++((b.take 28).map eB++zB (28 - (b.take 28).length))++(qb q).map eB++[eB (UInt8.ofNat b.length)]++zB 27):=by simp [upd]
   have hl2:((qb q).map eB++((b.take 28).map eB++zB (28 - (b.take 28).length))++(qb q).map eB++[eB (UInt8.ofNat b.length)]++zB 27).length=64:=by simp [zB,qb];omega
   have e4:=zx9 q (eB (UInt8.ofNat b.length)) b hb
   have e5:=zvn q b hb
   rw [← e5] at e4
   generalize (qb q).map eB++((b.take 28).map eB++zB (28 - (b.take 28).length))++(qb q).map eB++[eB (UInt8.ofNat b.length)]++zB 27=c2 at hg2 hl2 e4 ⊢
   have hmn:(min 28 (b.length:Int)).toNat=min 28 b.length:=by omega
   refine goS (nn hl2 hmn) ?_
   refine goR (nn hl2 hmn) ?_
   have e6:List.drop (min 28 b.length) b=b.drop 28:=by
    rcases Nat.le_total b.length 28 with h|h
    · rw [Nat.min_eq_right h,List.drop_length,List.drop_of_length_le h]
    · rw [Nat.min_eq_left h]
   have e7:(List.map (fun u:UInt8=>D.int IntKind.u8 (u.toNat:Int)) (List.take 27 (b.drop 28)))=(b.drop 28).map eB:=by
    rw [List.take_of_length_le (by rw [List.length_drop];omega)];rfl
   rw [e6]
   refine zjx (by simp only [gdD,hg2];rw [if_pos (by omega)]) ?_
   rw [Gh.set_set,e7,e4]
   refine goS trivial ?_
   refine goR trivial ?_
   (apply Fin.eq;(focus (simp -dsimp (disch:=first|omega|(simp only [go_sem];omega)) only [go_sem,seval,Nat.reduceEqDiff,Nat.reduceLeDiff]<;>rfl)))
   exact ⟨rfl,_,.refl _,rfl⟩
end Go.Proofs.Ytlejjdbmmdghmaa
namespace C22
structure Fnd where
 s:Sec
 at':Int
 good:Bool
 deriving DecidableEq
def zF:Fnd:=⟨z0,0,false⟩
def readC (d:Dk) (a:Int):Fnd×Int:=(⟨(rd d a).1,a,decide ((rd d a).2=0) && zf6 (rd d a).1⟩,if (rd d a).2=14 then 0 else (rd d a).2)
def slotR (d:Dk) (first i:Int):Fnd×Fnd×Int :=
 if (readC d (first+2 * i)).2≠0 then (zF,zF,(readC d (first+2 * i)).2) else
 if (readC d (first+2 * i+1)).2≠0 then (zF,zF,(readC d (first+2 * i+1)).2) else
 if (readC d (first+2 * i+1)).1.good=true∧((readC d (first+2 * i)).1.good=false∨zch (readC d (first+2 * i)).1.s 0<zch (readC d (first+2 * i+1)).1.s 0) then ((readC d (first+2 * i+1)).1,(readC d (first+2 * i)).1,0) else
 ((readC d (first+2 * i)).1,(readC d (first+2 * i+1)).1,0)
def writeR (d:Dk) (a:Int) (s:Sec):Dk×Int:=if (wr d a s).2≠0 then wr d a s else sy (wr d a s).1
def healR (d:Dk) (best other:Fnd):Dk×Int:=if best.good=false∨(other.good=true∧other.s=best.s) then (d,0) else writeR d other.at' best.s
def fmtL (d:Dk) (first:Int):Nat→Dk×Int
 | 0=>(d,0)
 | k+1=>if (fmtL d first k).2≠0 then fmtL d first k else wr (fmtL d first k).1 (first+k) (mk1 1 [])
def zbx (d:Dk) (first n:Int):Bool:=!(decide (n<1) || decide (first<0) || decide ((d.cs.length:Int)<first) || decide (((d.cs.length:Int) - first) / 2<n))
def fmtR (d:Dk) (first n:Int):Dk×Int :=
 if zbx d first n=false then (d,1) else
 if (fmtL d first (2 * n.toNat)).2≠0 then fmtL d first (2 * n.toNat) else sy (fmtL d first (2 * n.toNat)).1
def zkc (d:Dk) (first:Int) (i:Nat):Dk×Bool×Int :=
 let x:=slotR d first i
 if x.2.2≠0 then (d,false,x.2.2) else
 if x.1.good=true then ((healR d x.1 x.2.1).1,false,(healR d x.1 x.2.1).2) else
 ((fmtR d (first+2 * i) 1).1,true,(fmtR d (first+2 * i) 1).2)
def openN (d:Dk) (first:Int):Nat→Dk×List Int×Int
 | 0=>(d,[],0)
 | k+1=>if (openN d first k).2.2≠0 then openN d first k else
   ((zkc (openN d first k).1 first k).1,(if (zkc (openN d first k).1 first k).2.1=true then (openN d first k).2.1++[(k:Int)] else (openN d first k).2.1),(zkc (openN d first k).1 first k).2.2)
def zhf (d:Dk) (first n:Int):Dk×List Int×Int :=
 if zbx d first n=false then (d,[],1) else
 if (openN d first n.toNat).2.2≠0 then ((openN d first n.toNat).1,[],(openN d first n.toNat).2.2) else openN d first n.toNat
def zgn (s:Sec):Str:=(s.1.drop 4).take (min (zaa s 36) 28)++(s.1.drop 37).take (zaa s 36 - 28)
def getR (d:Dk) (first n i:Int):Str×Int :=
 if i<0∨n≤i then ([],1) else
 if (slotR d first i).2.2≠0 then ([],(slotR d first i).2.2) else
 if (slotR d first i).1.good=false then ([],14) else
 if zaa (slotR d first i).1.s 36=0 then ([],8) else (zgn (slotR d first i).1.s,0)
def zs6 (best:Fnd):Int:=if best.good=true then ((zch best.s 0:Int)+1) % 4294967296 else 1
def zkd (d:Dk) (first i:Int) (s:Sec):Dk×Int :=
 if (writeR d (first+2 * i+1) s).2≠0 then writeR d (first+2 * i+1) s else writeR (writeR d (first+2 * i+1) s).1 (first+2 * i) s
def zd4 (d:Dk) (first i:Int) (b:Str):Dk×Int :=
 if (slotR d first i).2.2≠0 then (d,(slotR d first i).2.2) else
 if (healR d (slotR d first i).1 (slotR d first i).2.1).2≠0 then healR d (slotR d first i).1 (slotR d first i).2.1 else
 zkd (healR d (slotR d first i).1 (slotR d first i).2.1).1 first i (mk1 (zs6 (slotR d first i).1) b)
def zya (d:Dk) (first n i:Int) (b:Str):Dk×Int:=if i<0∨n≤i∨b.length<1∨55<b.length then (d,1) else zd4 d first i b
def zmm (d:Dk) (first n i:Int):Dk×Int:=if i<0∨n≤i then (d,1) else zd4 d first i []
def Up (d d':Dk) (k:Int):Prop:=Okd d'∧d'.cs.length=d.cs.length∧d'.steps≤d.steps+k
theorem Up.refl {d:Dk} (h:Okd d):Up d d 0:=⟨h,rfl,by omega⟩
theorem Up.trans {d d' d'':Dk} {k k':Int} (h:Up d d' k) (h':Up d' d'' k'):Up d d'' (k+k'):=⟨h'.1,h'.2.1.trans h.2.1,by have:=h.2.2;have:=h'.2.2;omega⟩
theorem Up.mono {d d':Dk} {k k':Int} (h:Up d d' k) (hk:k≤k'):Up d d' k':=⟨h.1,h.2.1,by have:=h.2.2;omega⟩
theorem z5m (d:Dk) (i:Int) (s:Sec):(wr d i s).1.cs.length=d.cs.length:=by
 unfold wr stp
 split
 · rfl
 · split
   · split<;>simp
   · split<;>simp
theorem z5n (d:Dk):(sy d).1.cs.length=d.cs.length:=by
 unfold sy stp
 split
 · rfl
 · split
   · split<;>simp
   · split<;>simp
theorem z1d {d:Dk} (h:Okd d) (hn:d.steps≤1000000000) (i:Int) (s:Sec):Up d (wr d i s).1 1:=⟨(zys h hn i s).1,z5m d i s,(zys h hn i s).2⟩
theorem z5o {d:Dk} (h:Okd d) (hn:d.steps≤1000000000):Up d (sy d).1 1:=⟨(zyt h hn).1,z5n d,(zyt h hn).2⟩
theorem zke {d:Dk} (h:Okd d) (hn:d.steps≤999999999) (a:Int) (s:Sec):Up d (writeR d a s).1 2:=by
 have h1:=z1d h (by omega) a s
 unfold writeR
 split
 · exact h1.mono (by omega)
 · exact h1.trans (z5o h1.1 (by have:=h1.2.2;omega))
theorem zre {d:Dk} (h:Okd d) (hn:d.steps≤999999999) (b o:Fnd):Up d (healR d b o).1 2:=by
 unfold healR
 split
 · exact (Up.refl h).mono (by omega)
 · exact zke h hn _ _
theorem zp2 {d:Dk} (h:Okd d) (first:Int) (k:Nat) (hn:d.steps+k≤1000000000):Up d (fmtL d first k).1 k:=by
 induction k with
 | zero=>exact Up.refl h
 | succ k ih =>
  have h1:=ih (by omega)
  unfold fmtL
  split
  · exact h1.mono (by omega)
  · have:=h1.trans (z1d h1.1 (by have:=h1.2.2;omega) (first+k) (mk1 1 []))
    exact this.mono (by omega)
theorem zgo {d:Dk} {first n:Int} (h:zbx d first n=true):1≤n∧0≤first∧first+2 * n≤d.cs.length:=by
 unfold zbx at h
 simp only [Bool.not_eq_true',Bool.or_eq_false_iff,decide_eq_false_iff_not] at h
 omega
theorem z1e {d:Dk} (h:Okd d) (first n:Int) (hn:d.steps≤900000000):Up d (fmtR d first n).1 (2 * n.toNat+1):=by
 unfold fmtR
 split
 · exact (Up.refl h).mono (by omega)
 · rename_i hp
   have hp2:=zgo (by simpa using hp)
   have hm:=h.most
   have h1:=zp2 h first (2 * n.toNat) (by omega)
   split
   · exact h1.mono (by omega)
   · exact (h1.trans (z5o h1.1 (by have:=h1.2.2;omega))).mono (by omega)
theorem zyb {d:Dk} (h:Okd d) (first:Int) (i:Nat) (hn:d.steps≤900000000):Up d (zkc d first i).1 3:=by
 unfold zkc
 simp only
 split
 · exact (Up.refl h).mono (by omega)
 · split
   · exact (zre h (by omega) _ _).mono (by omega)
   · exact (z1e h _ 1 hn).mono (by omega)
theorem zyc {d:Dk} (h:Okd d) (first:Int) (k:Nat) (hn:d.steps+3 * k≤900000000):Up d (openN d first k).1 (3 * k):=by
 induction k with
 | zero=>exact Up.refl h
 | succ k ih =>
  have h1:=ih (by omega)
  unfold openN
  split
  · exact h1.mono (by omega)
  · exact (h1.trans (zyb h1.1 first k (by have:=h1.2.2;omega))).mono (by omega)
end C22
namespace Go.Proofs.Ytlejjdbmmdghmaa
open Go Go.E2 C22
set_option maxHeartbeats 1000000
def eF (f:Fnd):D:=.agg (f.s.1.map eB++[D.int .i64 f.at']++[D.bool f.good])
attribute [go_sem] eF
theorem zi7 (f:Fnd):(eF f).cells=f.s.1.map eB++[D.int .i64 f.at']++[D.bool f.good]:=rfl
theorem zf9 (f:Fnd):(f.s.1.map eB++[D.int .i64 f.at']++[D.bool f.good]).length=66:=by rw [List.length_append,List.length_append,zaj];rfl
@[go_sem] theorem z1f (f:Fnd):zb 66 (eF f)=true:=by simp only [zb,zi7,List.length_append,zaj,List.all_append,zlw];rfl
@[go_sem] theorem zzr (l:List Fnd):(l.map eF).all (zb 66)=true:=by rw [List.all_eq_true];intro x hx;obtain ⟨s,_,rfl⟩:=List.mem_map.1 hx;exact z1f s
def eP (p:Nat) (first n:Int):D:=.agg [.gp p 0,.int .i64 first,.int .i64 n]
attribute [go_sem] eP
theorem zvp (p:Nat) (first n i:Int):zy Try.prog f_zz25 [eP p first n,.int .i64 i] [] (fun r post=>∃ b1 b2,r=.d (.clo f_zz17 [.gp b1 0,.gp b2 0])∧post=[ze b2 [.int .i64 i],ze b1 [.gp p 0,.int .i64 first,.int .i64 n]]):=by
 refine zg fol zz25_cp fun R G σ hs=>?_
 have hs:Sep R G:=hs
 refine goS trivial ?_
 refine goR trivial ?_
 refine zam fun b1 hb1=>?_
 have hs1:=Sep.new (cs:=[.gp p 0,.int .i64 first,.int .i64 n]) hb1 hs
 refine goS trivial ?_
 refine goR trivial ?_
 refine zam fun b2 hb2=>?_
 have hs2:=Sep.new (cs:=[.int .i64 i]) hb2 hs1
 refine goS trivial ?_
 refine goR trivial ?_
 exact Fin.eq rfl ⟨rfl,_,⟨b1,b2,rfl,rfl⟩,hs2⟩
theorem zs7 (p:Nat) (d:Dk) (first n i:Int) (h0:0≤first) (h1:0≤i) (h2:first+2 * i+1≤1000000) (b1 b2 l:Nat) (J:Nat→Gh→Prop) (S:Gh→Prop) (σ:List Hp) (G:Gh) (hJ:J 0 G)
 (hb:∀ k G',J k G'→∃ R,Sep (zp p d::ze b2 [.int .i64 i]::ze b1 [.gp p 0,.int .i64 first,.int .i64 n]::R) G')
 (hstep:∀ k G',k<2→J k G'→∀ σ,zk2 Try.prog l [eF (readC d (first+2 * i+k)).1,.int .i64 (readC d (first+2 * i+k)).2] σ G' fun r lv G2=>lv=σ∧(r=.d (.bool true)∧J (k+1) G2∨r=.d (.bool false)∧S G2)) :
 zbb Try.prog f_zz17 ([.yld l,.gp b1 0,.gp b2 0].map .d) σ G fun _ σ' G'=>σ'=σ∧(J 2 G'∨S G'):=by
 refine zap fol zz17_cp ?_
 refine goS trivial ?_
 refine goR trivial ?_
 refine W.loop (fun m st=>∃ (k:Nat) (b6 b8:Blk) (G1:Gh),k≤2∧m=2 - k∧J k G1 ∧
  st=(E [(0,.d (.yld l)),(1,.d (.gp b1 0)),(2,.d (.gp b2 0)),(9,.d (.int .i64 k))],HB [(6,b6),(8,b8)],σ,G1))
  ⟨_,_,zt (zcx [] [6,8] rfl).symm,0,_,_,G,by omega,rfl,hJ,rfl⟩ ?_
 rintro m st ⟨k,b6,b8,G1,hk,rfl,hJ1,rfl⟩
 refine goR trivial ?_
 refine zns (fun h4=>?_) (fun h4=>?_)
 · have hk':k<2:=by omega
   obtain ⟨R,hs⟩:=hb k G1 hJ1
   have hc1:=hs.f3.get
   have hc2:=hs.swap.get
   have hst:=hstep k G1 hk' hJ1
   obtain ⟨s,e⟩:∃ s,s=(rd d (first+2 * i+k)).1:=⟨_,rfl⟩
   have hst2:∀ b e',readC d (first+2 * i+k)=(⟨s,first+2 * i+k,b⟩,e')→∀ σ,zk2 Try.prog l [.agg (s.1.map eB++[D.int .i64 (first+2 * i+k)]++[D.bool b]),.int .i64 e'] σ G1 fun r lv G2=>lv=σ∧(r=.d (.bool true)∧J (k+1) G2∨r=.d (.bool false)∧S G2):=by
    intro b e' h
    rw [h] at hst
    exact hst
   have hrd:rd d (first+2 * i+k)=(s,(rd d (first+2 * i+k)).2):=by rw [e]
   have hrc:readC d (first+2 * i+k)=(⟨s,first+2 * i+k,decide ((rd d (first+2 * i+k)).2=0) && zf6 s⟩,if (rd d (first+2 * i+k)).2=14 then 0 else (rd d (first+2 * i+k)).2):=by unfold readC;rw [← e]
   generalize (rd d (first+2 * i+k)).2=er at hrd hrc
   have hq:=(z1t p d (first+2 * i+k)).q hs
   rw [hrd] at hq
   have hb36:(List.drop 36 (s.1.map eB)).head?=some (.int .u8 (zaa s 36:Int)):=by
    rw [List.head?_drop,List.getElem?_map,List.getElem?_eq_getElem (by rw [s.2];decide),zh7 s (by decide)];rfl
   by_cases e0:er=0
   · subst e0
     (refine z8f (nn hc1 (nn hc2 hb36)) (hq) (zdp s 0 (by omega)) (zdp s 32 (by omega)) ?_;(repeat' (with_reducible apply Br.mk<;>intro _)))
     all_goals
      apply z96 (hst2 _ _ ?_ _)
      focus (simp -dsimp (disch:=first|omega|(simp only [go_sem];omega)) only [go_sem,seval,Nat.reduceEqDiff,Nat.reduceLeDiff]<;>fail)
      focus (simp -dsimp (disch:=first|omega|(simp only [go_sem];omega)) only [go_sem,seval,Nat.reduceEqDiff,Nat.reduceLeDiff]<;>rfl)
      rintro r G2 (⟨rfl,hJ2⟩|⟨rfl,hS⟩)
      · refine goS trivial ?_
        refine goR trivial ?_
        refine ⟨_,_,?_,zb7,k+1,_,_,G2,by omega,rfl,hJ2,rfl⟩
        omega
      · refine goS trivial ?_
        refine goR trivial ?_
        exact Fin.eq rfl ⟨rfl,.inr hS⟩
     all_goals
      rw [hrc,if_neg (by decide),decide_eq_true rfl,Bool.true_and]
      refine congrArg (fun b=>((⟨s,_,b⟩:Fnd),(0:Int))) ?_
      rw [Bool.eq_iff_iff]
      unfold zf6
      simp only [Bool.and_eq_true,decide_eq_true_eq,Bool.false_eq_true,iff_false]
      omega
   · by_cases e14:er=14
     · subst e14
       (refine zb1 (nn hc1 (nn hc2 hb36)) (hq) ?_;(repeat' (with_reducible apply Br.mk<;>intro _)))
       apply z96 (hst2 _ _ ?_ _)
       focus (simp -dsimp (disch:=first|omega|(simp only [go_sem];omega)) only [go_sem,seval,Nat.reduceEqDiff,Nat.reduceLeDiff]<;>fail)
       focus (simp -dsimp (disch:=first|omega|(simp only [go_sem];omega)) only [go_sem,seval,Nat.reduceEqDiff,Nat.reduceLeDiff]<;>rfl)
       rintro r G2 (⟨rfl,hJ2⟩|⟨rfl,hS⟩)
       · refine goS trivial ?_
         refine goR trivial ?_
         refine ⟨_,_,?_,zb7,k+1,_,_,G2,by omega,rfl,hJ2,rfl⟩
         omega
       · refine goS trivial ?_
         refine goR trivial ?_
         exact Fin.eq rfl ⟨rfl,.inr hS⟩
       · rw [hrc];rfl
     · (refine zb1 (nn hc1 (nn hc2 (nn hb36 (nn e0 e14)))) (hq) ?_;(repeat' (with_reducible apply Br.mk<;>intro _)))
       apply z96 (hst2 _ _ ?_ _)
       focus (simp -dsimp (disch:=first|omega|(simp only [go_sem];omega)) only [go_sem,seval,Nat.reduceEqDiff,Nat.reduceLeDiff]<;>fail)
       focus (simp -dsimp (disch:=first|omega|(simp only [go_sem];omega)) only [go_sem,seval,Nat.reduceEqDiff,Nat.reduceLeDiff]<;>rfl)
       rintro r G2 (⟨rfl,hJ2⟩|⟨rfl,hS⟩)
       · refine goS trivial ?_
         refine goR trivial ?_
         refine ⟨_,_,?_,zb7,k+1,_,_,G2,by omega,rfl,hJ2,rfl⟩
         omega
       · refine goS trivial ?_
         refine goR trivial ?_
         exact Fin.eq rfl ⟨rfl,.inr hS⟩
       · rw [hrc,if_neg e14,decide_eq_false e0];rfl
 · obtain rfl:k=2:=by omega
   refine goR trivial ?_
   exact Fin.eq rfl ⟨rfl,.inl hJ1⟩
end Go.Proofs.Ytlejjdbmmdghmaa
