/-
 Layer 22 (slots): what a slot is while the power may fail,as plain mathematics.
 Conditions: of each law as it says.
-/
import Derived.Test.YtlejjdbmmdghmaaS22f
namespace C22
def fH (s:Sec):List UInt8:=s.1.take 32
def sH (s:Sec):List UInt8:=s.1.drop 32
theorem zlj {s t:Sec} (a:fH s=fH t) (b:sH s=sH t):s=t:=by
 apply Subtype.ext
 rw [← List.take_append_drop 32 s.1,← List.take_append_drop 32 t.1]
 unfold fH at a
 unfold sH at b
 rw [a,b]
theorem z06 (x y:Sec):fH (torn x y)=fH y:=by
 unfold fH torn
 simp only
 rw [List.take_append_of_le_length (by rw [List.length_take,y.2];decide),List.take_of_length_le (by rw [List.length_take,y.2];decide)]
theorem z07 (x y:Sec):sH (torn x y)=sH x:=by
 unfold sH torn
 simp only
 rw [List.drop_left' (by rw [List.length_take,y.2];decide)]
def z20 (l:List UInt8):Nat:=((l[0]?).getD 0).toNat * 16777216+((l[1]?).getD 0).toNat * 65536+((l[2]?).getD 0).toNat * 256+((l[3]?).getD 0).toNat
theorem zrc (s:Sec):zbz s 0=z20 (fH s):=by
 unfold zbz z20 zaa fH
 simp only [List.getElem?_take,Nat.zero_add]
 rfl
theorem zza (s:Sec):zbz s 32=z20 (sH s):=by
 unfold zbz z20 zaa sH
 simp only [List.getElem?_drop]
theorem zvj (s:Sec):zaa s 36=(((sH s)[4]?).getD 0).toNat:=by
 unfold zaa sH
 simp only [List.getElem?_drop]
def Cls (G N s:Sec):Prop:=(fH s=fH G∨fH s=fH N∨fH s=fH z0)∧(sH s=sH G∨sH s=sH N∨sH s=sH z0)
theorem Cls.g {G N:Sec}:Cls G N G:=⟨.inl rfl,.inl rfl⟩
theorem Cls.n {G N:Sec}:Cls G N N:=⟨.inr (.inl rfl),.inr (.inl rfl)⟩
theorem Cls.z {G N:Sec}:Cls G N z0:=⟨.inr (.inr rfl),.inr (.inr rfl)⟩
theorem Cls.torn {G N x y:Sec} (hx:Cls G N x) (hy:Cls G N y):Cls G N (torn x y):=⟨by rw [z06];exact hy.1,by rw [z07];exact hx.2⟩
structure Two (G N:Sec):Prop where
 gg:zd4 G=true
 gn:zd4 N=true
 ne:G=N∨zbz G 0<zbz N 0
theorem z5n:zbz z0 0=0:=by decide
theorem zx1:zbz z0 32=0:=by decide
theorem zmf {s:Sec} (h:zd4 s=true):zbz s 0=zbz s 32∧1≤zbz s 0∧zaa s 36≤55:=by
 unfold zd4 at h
 simp only [Bool.and_eq_true,decide_eq_true_eq] at h
 exact ⟨h.1.1,h.1.2,h.2⟩
theorem Two.only {G N:Sec} (h:Two G N) {s:Sec} (hc:Cls G N s) (hg:zd4 s=true):s=G∨s=N:=by
 obtain ⟨g1,g2,_⟩:=zmf h.gg
 obtain ⟨n1,n2,_⟩:=zmf h.gn
 obtain ⟨s1,s2,_⟩:=zmf hg
 have hz1:=z5n
 have hz2:=zx1
 rw [zrc] at g1 g2 n1 n2 s1 s2 hz1
 rw [zza] at g1 n1 s1 hz2
 rcases h.ne with rfl|hlt
 · obtain ⟨a,b⟩:=hc
   rcases a with a|a|a
   · rcases b with b|b|b
     · exact .inl (zlj a b)
     · exact .inl (zlj a b)
     · rw [a,b] at s1;omega
   · rcases b with b|b|b
     · exact .inl (zlj a b)
     · exact .inl (zlj a b)
     · rw [a,b] at s1;omega
   · rw [a] at s2;omega
 · rw [zrc,zrc] at hlt
   obtain ⟨a,b⟩:=hc
   rcases a with a|a|a
   · rcases b with b|b|b
     · exact .inl (zlj a b)
     · rw [a,b] at s1;omega
     · rw [a,b] at s1;omega
   · rcases b with b|b|b
     · rw [a,b] at s1;omega
     · exact .inr (zlj a b)
     · rw [a,b] at s1;omega
   · rw [a] at s2;omega
structure z08 (G N:Sec) (c:Cel):Prop where
 cls:Cls G N c.s
 op:∀ s∈c.op,s=G∨s=N
structure Safe (G N:Sec) (c:Cel):Prop where
 op:c.op=[]
 bad:c.bad=false
 is:c.s=G∨c.s=N
theorem z08.kept {G N:Sec} {c:Cel} (h:z08 G N c) (x:Int):z08 G N (kept c x):=by
 have hcl:∀ s∈c.op,Cls G N s:=fun s hs=>by rcases h.op s hs with rfl|rfl;exact .g;exact .n
 have hget:∀ i:Nat,Cls G N ((c.op[i]?).getD z0):=fun i=>by
  cases hx:c.op[i]? with
  | none=>exact .z
  | some s=>exact hcl s (List.mem_of_getElem? hx)
 unfold C22.kept
 split
 · exact ⟨h.cls,by simp⟩
 · split
   · exact ⟨hget _,by simp⟩
   · split
     · exact ⟨.z,by simp⟩
     · refine ⟨.torn ?_ (hget _),by simp⟩
       split
       · exact hget _
       · exact h.cls
structure zwf (d:Dk):Prop where
 ok:Okd d
 live:d.dead=false
 shut:∀ c∈d.cs,c.op=[]
theorem zwf.syC {d:Dk} (h:zwf d):d.cs.map syC=d.cs:=by
 apply List.ext_getElem
 · simp
 · intro i h1 h2
   rw [List.getElem_map]
   have:=h.shut _ (List.getElem_mem h2)
   unfold C22.syC
   rw [this];rfl
theorem zwf.rd {d:Dk} (h:zwf d) {a:Nat} (ha:a<d.cs.length):rd d a=if d.cs[a].bad=true then (z0,14) else (d.cs[a].s,0):=by
 rw [zvi h.live (List.getElem?_eq_getElem ha),zst (h.shut _ (List.getElem_mem ha))]
theorem z09:zd4 z0=false:=by decide
theorem zwf.readC {d:Dk} (h:zwf d) {a:Nat} (ha:a<d.cs.length):readC d a=(⟨d.cs[a].s,a,zd4 d.cs[a].s⟩,0):=by
 unfold C22.readC
 rw [h.rd ha]
 split
 · rename_i hb
   rw [h.ok.rot _ (List.getElem_mem ha) hb,z09]
   rfl
 · simp
theorem zwf.chk {d:Dk} (h:zwf d) {a:Nat} (ha:a<d.cs.length):chk d a=0:=by
 unfold C22.chk
 rw [if_neg (by rw [h.live];simp),if_neg (by omega)]
theorem sy_eq {d:Dk} (h:d.dead=false) (h0:d.after≠0):sy d=({ d with after:=if 0<d.after then d.after - 1 else d.after,steps:=d.steps+1,cs:=d.cs.map syC },0):=by
 unfold sy stp
 rw [if_neg (by rw [h];simp),if_neg h0,if_neg (by simp)]
theorem z1a {d:Dk} (h:d.dead=false) (h0:d.after=0):sy d=({ d with dead:=true },12):=by
 unfold sy stp
 rw [if_neg (by rw [h];simp),if_pos h0,if_pos (by simp)]
inductive WrO (d:Dk) (a:Nat) (v:Sec):Dk→Int→Prop
 | none:d.after=0→WrO d a v { d with dead:=true } 12
 | open (d':Dk):d.after=1→d'.cs=(d.cs.modify a fun c=>{ c with op:=[v] })→d'.dead=true→d'.steps=d.steps+1→WrO d a v d' 12
 | done (d':Dk):d'.cs=(d.cs.modify a fun _=>⟨v,false,[]⟩)→d'.dead=false→d'.steps=d.steps+2→(d.after=-1→d'.after=-1)→WrO d a v d' 0
theorem zwf.writeR {d:Dk} (h:zwf d) (_hn:d.steps≤900000000) {a:Nat} (ha:a<d.cs.length) (v:Sec):WrO d a v (writeR d a v).1 (writeR d a v).2:=by
 have haft:=h.ok.aft
 by_cases h0:d.after=0
 · have e:stp d=({ d with dead:=true },12):=by unfold stp;rw [if_pos h0]
   have e2:wr d a v=({ d with dead:=true },12):=by
    unfold wr
    rw [if_neg (by rw [h.chk ha];simp),e,if_pos (by simp)]
   have e3:C22.writeR d a v=({ d with dead:=true },12):=by unfold C22.writeR;rw [e2,if_pos (by simp)]
   rw [e3]
   exact .none h0
 · have e:stp d=({ d with after:=if 0<d.after then d.after - 1 else d.after,steps:=d.steps+1 },0):=by unfold stp;rw [if_neg h0]
   have e2:wr d a v=({ d with after:=if 0<d.after then d.after - 1 else d.after,steps:=d.steps+1,cs:=d.cs.modify a fun c=>{ c with op:=[v] } },0):=by
    unfold wr
    rw [if_neg (by rw [h.chk ha];simp),e,if_neg (by simp),Int.toNat_natCast]
    have:d.cs.modify a (fun c=>{ c with op:=c.op++[v] })=d.cs.modify a fun c=>{ c with op:=[v] }:=by
     apply List.ext_getElem
     · simp
     · intro i q1 q2
       rw [List.getElem_modify,List.getElem_modify]
       have q3:i<d.cs.length:=by simpa using q1
       split
       · rw [h.shut _ (List.getElem_mem q3)];rfl
       · rfl
    simp only [this]
   have e4:C22.writeR d a v=sy { d with after:=if 0<d.after then d.after - 1 else d.after,steps:=d.steps+1,cs:=d.cs.modify a fun c=>{ c with op:=[v] } }:=by
    unfold C22.writeR
    rw [e2,if_neg (by simp)]
   rw [e4]
   obtain ⟨dx,hdx⟩:∃ dx:Dk,dx={ d with after:=if 0<d.after then d.after - 1 else d.after,steps:=d.steps+1,cs:=d.cs.modify a fun c=>{ c with op:=[v] } }:=⟨_,rfl⟩
   rw [← hdx]
   have x1:dx.dead=false:=by rw [hdx];exact h.live
   have x2:dx.cs=d.cs.modify a fun c=>{ c with op:=[v] }:=by rw [hdx]
   have x3:dx.steps=d.steps+1:=by rw [hdx]
   have x4:dx.after=if 0<d.after then d.after - 1 else d.after:=by rw [hdx]
   by_cases h1:d.after=1
   · rw [z1a x1 (by rw [x4,h1];decide)]
     exact .open _ h1 x2 rfl x3
   · have h2:dx.after≠0:=by rw [x4];split<;>omega
     rw [sy_eq x1 h2]
     refine .done _ ?_ x1 (by simp only;omega) (fun hm=>by simp only;rw [x4,hm];decide)
     simp only [x2]
     apply List.ext_getElem
     · simp
     · intro i q1 q2
       simp only [List.getElem_map,List.getElem_modify]
       have q3:i<d.cs.length:=by simpa using q2
       split
       · rfl
       · have:=h.shut _ (List.getElem_mem q3)
         unfold C22.syC
         rw [this];rfl
end C22
namespace C22
theorem zn9 (q:Int):(qb q).length=4:=rfl
theorem zvk (q:Int) (b:Str):(mk1 q b).1=(qb q++pad 28 (b.take 28))++(qb q++([UInt8.ofNat b.length]++pad 27 ((b.drop 28).take 27))):=by
 have h1:(pad 28 (b.take 28)).length=28:=zeo (by simp;omega)
 have h2:(pad 27 ((b.drop 28).take 27)).length=27:=zeo (by simp;omega)
 unfold mk1
 simp only
 rw [List.take_of_length_le (by simp only [List.length_append,h1,h2,zn9,List.length_cons,List.length_nil];omega)]
 simp only [List.append_assoc]
theorem z5o (q:Int) (b:Str):fH (mk1 q b)=qb q++pad 28 (b.take 28):=by
 have h1:(pad 28 (b.take 28)).length=28:=zeo (by simp;omega)
 unfold fH
 rw [zvk,List.take_left' (by rw [List.length_append,h1,zn9])]
theorem zzb (q:Int) (b:Str):sH (mk1 q b)=qb q++([UInt8.ofNat b.length]++pad 27 ((b.drop 28).take 27)):=by
 have h1:(pad 28 (b.take 28)).length=28:=zeo (by simp;omega)
 unfold sH
 rw [zvk,List.drop_left' (by rw [List.length_append,h1,zn9])]
theorem zhd (b:Int):((zj8 b).toNat:Int)=b % 256:=by
 unfold zj8
 rw [UInt8.toNat_ofNat']
 omega
theorem zvl {q:Int} (h0:0≤q) (h1:q<4294967296) (l:List UInt8):(z20 (qb q++l):Int)=q:=by
 unfold z20 qb
 simp only [List.cons_append,List.nil_append,List.getElem?_cons_zero,List.getElem?_cons_succ,Option.getD_some]
 have a:=zhd (q / 16777216)
 have b:=zhd (q / 65536)
 have c:=zhd (q / 256)
 have d:=zhd q
 omega
theorem zvm {q:Int} (h0:0≤q) (h1:q<4294967296) (b:Str):(zbz (mk1 q b) 0:Int)=q:=by
 rw [zrc,z5o,zvl h0 h1]
theorem zvn {q:Int} (h0:0≤q) (h1:q<4294967296) (b:Str):(zbz (mk1 q b) 32:Int)=q:=by
 rw [zza,zzb,zvl h0 h1]
theorem zpq (q:Int) {b:Str} (h:b.length≤55):zaa (mk1 q b) 36=b.length:=by
 rw [zvj,zzb]
 unfold qb
 simp only [List.cons_append,List.nil_append,List.getElem?_cons_zero,List.getElem?_cons_succ,Option.getD_some]
 rw [UInt8.toNat_ofNat']
 omega
theorem zx2 {q:Int} (h0:1≤q) (h1:q<4294967296) {b:Str} (h:b.length≤55):zd4 (mk1 q b)=true:=by
 have a:=zvm (by omega) h1 b
 have c:=zvn (by omega) h1 b
 unfold zd4
 rw [zpq q h]
 simp only [Bool.and_eq_true,decide_eq_true_eq]
 omega
theorem zvo (q:Int) {b:Str} (h:b.length≤55):zgj (mk1 q b)=b:=by
 have h1:(pad 28 (b.take 28)).length=28:=zeo (by simp;omega)
 unfold zgj
 rw [zpq q h,zvk]
 have e1:List.drop 4 ((qb q++pad 28 (b.take 28))++(qb q++([UInt8.ofNat b.length]++pad 27 ((b.drop 28).take 27))))=pad 28 (b.take 28)++(qb q++([UInt8.ofNat b.length]++pad 27 ((b.drop 28).take 27))):=by
  rw [List.append_assoc,List.drop_left' (zn9 q)]
 have e2:List.drop 37 ((qb q++pad 28 (b.take 28))++(qb q++([UInt8.ofNat b.length]++pad 27 ((b.drop 28).take 27))))=pad 27 ((b.drop 28).take 27):=by
  have:(qb q++pad 28 (b.take 28))++(qb q++([UInt8.ofNat b.length]++pad 27 ((b.drop 28).take 27)))=((qb q++pad 28 (b.take 28))++(qb q++[UInt8.ofNat b.length]))++pad 27 ((b.drop 28).take 27):=by simp only [List.append_assoc]
  rw [this,List.drop_left' (by simp only [List.length_append,h1,zn9,List.length_cons,List.length_nil])]
 rw [e1,e2]
 unfold pad
 have e3:List.take (min b.length 28) ((b.take 28++List.replicate (28 - (b.take 28).length) 0)++(qb q++([UInt8.ofNat b.length]++(List.take 27 (b.drop 28)++List.replicate (27 - (List.take 27 (b.drop 28)).length) 0))))=b.take 28:=by
  rw [List.append_assoc,List.take_left' (by rw [List.length_take];omega)]
 have e4:List.take (b.length - 28) (List.take 27 (b.drop 28)++List.replicate (27 - (List.take 27 (b.drop 28)).length) 0)=b.drop 28:=by
  rw [List.take_left' (by rw [List.length_take,List.length_drop];omega),List.take_of_length_le (by rw [List.length_drop];omega)]
 rw [e3,e4,List.take_append_drop]
end C22
