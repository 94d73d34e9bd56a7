/-
 Layer 40 (txn): Run and Settle on what the slots hold;plain definitions and laws.
 Conditions: none.
-/
import Derived.Test.YtlejjdbmmdghmaaY1
import Derived.Test.YtlejjdbmmdghmaaX9
import Derived.Test.YtlejjdbmmdghmaaX10
namespace Go.Proofs.Ytlejjdbmmdghmaa
open Go Go.E2 C22 C40
abbrev SS:=List Str×List (Int×Wr)
abbrev zi (sb n:Nat) (m:Int) (s:SS):As:=zbq sb n m s.1 s.2
abbrev zcz (n:Nat) (s:SS) (V:List Vl):Prop:=zgn n s.1 s.2 V
def prepS (n:Nat) (id:Int) (l:List Tw) (s:SS):SS:=if zat n s.1 s.2 id l=0 then (zh9 n s.1 s.2 id.toNat l,zof n s.2 id l) else s
def zdo (id:Int) (commit:Bool) (s:SS):SS:=decS s.1 s.2 id commit
def z8f (id:Int) (commit:Bool) (s:SS) (V:List Vl):List Vl :=
 if ziv id then (match za4 s.2 id with|none=>V|some w=>if commit then zfv w.l V else V) else V
theorem z1j {sb n:Nat} {m:Int} {s:SS} {V:List Vl} (g:zcz n s V) (hm:m≤390000000) (id:Int) (l:List Tw) (hL:l.length≤9223372036854775807) :
 zy Try.prog f_zz24 [.gp sb 0,.int .i64 id,eL l] [zi sb n m s] (fun r post=>r=.d (.int .i64 (zat n s.1 s.2 id l))∧post=[zi sb n (m+200) (prepS n id l s)]):=by
 have h:=zsy sb n m s.1 s.2 g.shp g.short g.ins (by omega) id l hL
 have e:zi sb n (m+200) (prepS n id l s)=zbq sb n (m+200) (if zat n s.1 s.2 id l=0 then zh9 n s.1 s.2 id.toNat l else s.1) (if zat n s.1 s.2 id l=0 then zof n s.2 id l else s.2):=by
  unfold prepS zi;split<;>rfl
 rw [e]
 exact h
theorem z1k {sb n:Nat} {m:Int} {s:SS} {V:List Vl} (g:zcz n s V) (hm:m≤390000000) (id:Int) (commit:Bool) :
 zy Try.prog f_zz33 [.gp sb 0,.int .i64 id,.bool commit] [zi sb n m s] (fun r post=>r=.d (.int .i64 (zs4 id))∧post=[zi sb n (m+400) (zdo id commit s)]) :=
 zv3 sb n m s.1 s.2 g.odd (by omega) id commit fun w hw=>g.wrOk id w hw
theorem zgn.prepS {n:Nat} {s:SS} {V:List Vl} (g:zcz n s V) (id:Int) (l:List Tw):zcz n (prepS n id l s) V:=by
 unfold Ytlejjdbmmdghmaa.prepS
 split
 · rename_i h;exact g.prep h
 · exact g
theorem zmr (id:Int):zs4 id=if ziv id then 0 else 1:=by
 unfold zs4
 by_cases h:id<1∨1099511627776<id
 · rw [if_pos h,if_neg (by unfold ziv;omega)]
 · rw [if_neg h,if_pos (by unfold ziv;omega)]
theorem zp0 (c:List Str) (ws:List (Int×Wr)) (id:Int) (commit:Bool):decS c ws id commit=if ziv id then (match za4 ws id with|none=>(c,ws)|some w=>(zkn commit id.toNat w.slot.toNat w.l c,mdel ws id)) else (c,ws):=by
 unfold decS
 by_cases h:id<1∨1099511627776<id
 · rw [if_pos h,if_neg (by unfold ziv;omega)]
 · rw [if_neg h,if_pos (by unfold ziv;omega)]
   cases za4 ws id<;>rfl
theorem zgn.decS {n:Nat} {s:SS} {V:List Vl} (g:zcz n s V) (id:Int) (commit:Bool):zcz n (zdo id commit s) (z8f id commit s V):=by
 unfold zdo z8f
 rw [zp0]
 by_cases h:ziv id
 · rw [if_pos h,if_pos h]
   cases hg:za4 s.2 id with
   | none=>exact g
   | some w=>exact g.dec hg commit
 · rw [if_neg h,if_neg h];exact g
def zms (l:List Tw) (id:Int) (s:SS):Int:=if l=[] then 0 else zat 2 s.1 s.2 id l
def prpS (l:List Tw) (id:Int) (s:SS):SS:=if l=[] then s else prepS 2 id l s
def dcS (l:List Tw) (id:Int) (commit:Bool) (s:SS):SS:=if l=[] then s else zdo id commit s
structure RunR where
 is:Bool
 e:Int
 dc:List Str
 s0:SS
 s1:SS
def zmt (dc:List Str) (s0 s1:SS) (id:Int) (l0 l1:List Tw):RunR :=
 if (l0=[]∧l1=[])∨¬ ziv id then ⟨false,1,dc,s0,s1⟩ else
 if zki dc id=true then ⟨false,9,dc,s0,s1⟩ else
 if zms l0 id s0≠0 then ⟨false,zms l0 id s0,dc,s0,s1⟩ else
 if zms l1 id s1≠0 then ⟨false,zms l1 id s1,dc,dcS l0 id false (prpS l0 id s0),s1⟩ else
 if zs5 dc id≠0 then ⟨false,zs5 dc id,dc,prpS l0 id s0,prpS l1 id s1⟩ else
 ⟨true,0,z1f (zmm dc id) id,dcS l0 id true (prpS l0 id s0),dcS l1 id true (prpS l1 id s1)⟩
theorem z1l {dc:List Str} {id:Int} (h:zs5 dc id≠0):zmm dc id=dc:=by
 unfold zs5 at h
 unfold zmm
 by_cases h1:¬ ziv id
 · rw [if_pos h1]
 rw [if_neg h1] at h ⊢
 by_cases h2:0≤fdI id dc 0
 · rw [if_pos h2]
 rw [if_neg h2] at h ⊢
 by_cases h3:fdI 0 dc 0<0
 · rw [if_pos h3]
 · rw [if_neg h3] at h;exact absurd rfl h
theorem DOk.rec {dc:List Str} (h:DOk dc) (id:Int):DOk (zmm dc id):=by
 unfold zmm
 split
 · exact h
 · split
   · exact h
   · split
     · exact h
     · refine ⟨by rw [List.length_set];exact h.1,fun b hb=>?_⟩
       rcases zpw hb with rfl|hb
       · exact .inr (za2 _)
       · exact h.2 b hb
theorem DOk.for {dc:List Str} (h:DOk dc) (id:Int):DOk (z1f dc id):=by
 unfold z1f
 split
 · refine ⟨by rw [List.length_set];exact h.1,fun b hb=>?_⟩
   rcases zpw hb with rfl|hb
   · exact .inl rfl
   · exact h.2 b hb
 · exact h
theorem zcz.prpS {s:SS} {V:List Vl} (g:zcz 2 s V) (l:List Tw) (id:Int):zcz 2 (prpS l id s) V:=by
 unfold Ytlejjdbmmdghmaa.prpS
 split
 · exact g
 · exact g.prepS id l
theorem zcz.dcS {s:SS} {V:List Vl} (g:zcz 2 s V) (l:List Tw) (id:Int) (commit:Bool):∃ V',zcz 2 (dcS l id commit s) V':=by
 unfold Ytlejjdbmmdghmaa.dcS
 split
 · exact ⟨_,g⟩
 · exact ⟨_,g.decS id commit⟩
end Go.Proofs.Ytlejjdbmmdghmaa
namespace Go.Proofs.Ytlejjdbmmdghmaa
open Go Go.E2 C22 C40
theorem zlo (ws:List (Int×Wr)):(zer ws).Perm (ws.map (·.1)):=List.mergeSort_perm _ _
theorem zol (ws:List (Int×Wr)):(zer ws).length=ws.length:=by rw [(zlo ws).length_eq,List.length_map]
theorem zgn.pendOk {n:Nat} {c:List Str} {ws:List (Int×Wr)} {V:List Vl} (h:zgn n c ws V):∀ id∈zer ws,ziv id:=by
 intro id hid
 obtain ⟨p,hp,rfl⟩:=List.mem_map.1 ((zlo ws).mem_iff.1 hid)
 exact h.ids p hp
theorem zp1 {ws:List (Int×Wr)} (h1:(ws.map (·.1)).Nodup) (h2:∀ p∈ws,∀ p'∈ws,p.2.slot=p'.2.slot→p.1=p'.1):(ws.map fun p=>p.2.slot).Nodup:=by
 induction ws with
 | nil=>exact List.nodup_nil
 | cons p ws ih =>
  rw [List.map_cons,List.nodup_cons] at h1 ⊢
  refine ⟨fun hm=>?_,ih h1.2 fun a ha b hb=>h2 a (List.mem_cons_of_mem _ ha) b (List.mem_cons_of_mem _ hb)⟩
  obtain ⟨p',hp',he⟩:=List.mem_map.1 hm
  have:=h2 p List.mem_cons_self p' (List.mem_cons_of_mem _ hp') he.symm
  exact h1.1 (this▸List.mem_map_of_mem hp')
theorem zgn.len4 {n:Nat} {c:List Str} {ws:List (Int×Wr)} {V:List Vl} (h:zgn n c ws V):ws.length≤4:=by
 have h1:=zeq (zp1 h.wsn h.dif) (l':=[2 * (n:Int),2 * (n:Int)+1,2 * (n:Int)+2,2 * (n:Int)+3]) (fun s hs=>by
  obtain ⟨p,hp,rfl⟩:=List.mem_map.1 hs
  have:=h.ins p hp
  simp only [List.mem_cons,List.not_mem_nil,or_false]
  omega)
 simpa using h1
def setL (dc:List Str):List Int→SS→SS
 | [],s=>s
 | id::l,s=>setL dc l (zdo id (zki dc id) s)
theorem zmu (dc:List Str):∀ (a b:List Int) (s:SS),setL dc (a++b) s=setL dc b (setL dc a s)
 | [],b,s=>rfl
 | x::a,b,s=>by rw [List.cons_append,setL,setL,zmu dc a b]
def zfw (dc:List Str) (s:SS):SS:=setL dc (zer s.2) s
theorem zcz.setL {n:Nat} (dc:List Str):∀ (l:List Int) {s:SS} {V:List Vl},zcz n s V→∃ V',zcz n (setL dc l s) V'
 | [],_s,V,g=>⟨V,g⟩
 | id::l,_s,_V,g=>zcz.setL dc l (g.decS id (zki dc id))
def zom (i:Nat) (c:List Str):List Str:=List.replicate i []++c.drop i
theorem zrp {i:Nat} {c:List Str} (h:i≤c.length):(zom i c).length=c.length:=by
 simp [zom];omega
theorem z1m {i:Nat} {c:List Str} (h:i<c.length):(zom i c)[i]'(by rw [zrp (by omega)];exact h)=c[i]:=by
 simp [zom,List.getElem_append_right]
theorem zyd {i:Nat} {c:List Str} (h:i<c.length):(zom i c).set i []=zom (i+1) c:=by
 unfold zom
 rw [List.drop_eq_getElem_cons h,List.set_append_right _ _ (by simp),List.length_replicate,Nat.sub_self,List.set_cons_zero,List.replicate_succ',List.append_assoc]
 rfl
theorem zv8 {i:Nat} {c:List Str} (h:i<c.length) (he:c[i]=[]):zom i c=zom (i+1) c:=by
 unfold zom
 rw [List.drop_eq_getElem_cons h,he,List.replicate_succ',List.append_assoc]
 rfl
theorem zye (c:List Str):zom c.length c=rep c.length:=by simp [zom,rep]
end Go.Proofs.Ytlejjdbmmdghmaa
namespace Go.Proofs.Ytlejjdbmmdghmaa
open Go Go.E2 C22 C40
def GS (s:SS):Prop:=∃ V,zcz 2 s V
theorem GS.prp {s:SS} (h:GS s) (l:List Tw) (id:Int):GS (prpS l id s):=by obtain ⟨V,g⟩:=h;exact ⟨V,g.prpS l id⟩
theorem GS.prep {s:SS} (h:GS s) (id:Int) (l:List Tw):GS (prepS 2 id l s):=by obtain ⟨V,g⟩:=h;exact ⟨V,g.prepS id l⟩
theorem GS.dc {s:SS} (h:GS s) (l:List Tw) (id:Int) (c:Bool):GS (dcS l id c s):=by obtain ⟨V,g⟩:=h;exact g.dcS l id c
theorem GS.set {s:SS} (h:GS s) (dc:List Str):GS (zfw dc s):=by obtain ⟨V,g⟩:=h;exact zcz.setL dc _ g
theorem zon {dc:List Str} {s0 s1:SS} (id:Int) (l0 l1:List Tw) (hd:DOk dc) (h0:GS s0) (h1:GS s1) :
 DOk (zmt dc s0 s1 id l0 l1).dc∧GS (zmt dc s0 s1 id l0 l1).s0∧GS (zmt dc s0 s1 id l0 l1).s1:=by
 unfold zmt
 split
 · exact ⟨hd,h0,h1⟩
 split
 · exact ⟨hd,h0,h1⟩
 split
 · exact ⟨hd,h0,h1⟩
 split
 · exact ⟨hd,(h0.prp _ _).dc _ _ _,h1⟩
 split
 · exact ⟨hd,h0.prp _ _,h1.prp _ _⟩
 · exact ⟨(hd.rec id).for id,(h0.prp _ _).dc _ _ _,(h1.prp _ _).dc _ _ _⟩
theorem zkj {l:List Int} (h:l.Pairwise (·≤·)):zck l=l:=List.mergeSort_of_pairwise (h.imp (by simp))
abbrev sS0:SS:=(rep 8,[])
theorem zi6:GS sS0:=⟨_,zgn.fresh (n:=2) (by omega) (by omega)⟩
theorem zp2:DOk (rep 4):=⟨by decide,fun b hb=>.inl (List.mem_replicate.1 hb).2⟩
def xA:RunR:=zmt (rep 4) sS0 sS0 1 [⟨0,0,[97],false⟩] [⟨0,0,[98],false⟩]
def xB:RunR:=zmt xA.dc xA.s0 xA.s1 2 [⟨0,0,[120],false⟩] []
def xP3:SS:=prepS 2 3 [⟨0,1,[99],false⟩] xB.s0
def xP4:SS:=prepS 2 4 [⟨1,0,[],false⟩] xP3
def xD:List Str:=zmm xB.dc 3
def x5:SS:=setL xD [3,4] xP4
theorem xA_is:xA.is=true:=by decide +kernel
theorem xA_e:xA.e=0:=by decide +kernel
theorem xA_g0:getR 2 xA.s0.1 0=(1,[97],0):=by decide +kernel
theorem xA_g1:getR 2 xA.s1.1 0=(1,[98],0):=by decide +kernel
theorem xB_is:xB.is=false:=by decide +kernel
theorem xB_e:xB.e=15:=by decide +kernel
theorem xP3_e:zat 2 xB.s0.1 xB.s0.2 3 [⟨0,1,[99],false⟩]=0:=by decide +kernel
theorem xP3_k:xP3.2.map (·.1)=[3]:=by decide +kernel
theorem xP3_g:getR 2 xP3.1 0=(1,[97],0):=by decide +kernel
theorem xP3_i:zat 2 xP3.1 xP3.2 4 [⟨0,1,[],false⟩]=4:=by decide +kernel
theorem xP3_j:zat 2 xP3.1 xP3.2 4 [⟨0,1,[],true⟩]=4:=by decide +kernel
theorem xP3_m:zat 2 xP3.1 xP3.2 4 [⟨1,0,[],false⟩]=0:=by decide +kernel
theorem xP4_n:zat 2 xP4.1 xP4.2 4 [⟨1,0,[],false⟩]=9:=by decide +kernel
theorem xD_e:zs5 xB.dc 3=0:=by decide +kernel
theorem z5z:xD.length=4:=by decide +kernel
theorem xP4_k:xP4.2.map (·.1)=[3,4]:=by decide +kernel
theorem x5_k:x5.2.map (·.1)=[]:=by decide +kernel
theorem x5_g0:getR 2 x5.1 0=(2,[99],0):=by decide +kernel
theorem x5_g1:getR 2 x5.1 1=(0,[],0):=by decide +kernel
theorem z1n:zki (rep 4) 3=false:=by decide +kernel
theorem zyf:zer xP3.2=[3]:=by unfold zer;rw [xP3_k];exact zkj (by decide)
theorem zv9:zfw xD xP4=x5:=by
 have:zer xP4.2=[3,4]:=by unfold zer;rw [xP4_k];exact zkj (by decide)
 unfold zfw x5
 rw [this]
theorem z1o:zer x5.2=[]:=by unfold zer;rw [x5_k];exact zkj (by decide)
theorem zmv:DOk xA.dc∧GS xA.s0∧GS xA.s1:=zon _ _ _ zp2 zi6 zi6
theorem zwa:DOk xB.dc∧GS xB.s0∧GS xB.s1:=zon _ _ _ zmv.1 zmv.2.1 zmv.2.2
theorem zfx:GS xP3:=zwa.2.1.prep _ _
theorem zmw:GS xP4:=zfx.prep _ _
theorem zp3:GS x5:=zv9▸zmw.set xD
end Go.Proofs.Ytlejjdbmmdghmaa
