/-
 Layer 40 (txn): what a site's slots hold,by its values and its prepared writes;plain laws.
 Conditions: none;definitions and laws.
-/
import Derived.Test.YtlejjdbmmdghmaaX8
namespace Go.Proofs.Ytlejjdbmmdghmaa
open Go Go.E2 C22 C40
def sl (c:List Str) (j:Nat):Str:=c.getD j []
theorem zv6 (c:List Str) (i j:Nat) (b:Str):sl (c.set i b) j=if i=j∧i<c.length then b else sl c j:=by
 unfold sl
 rw [List.getD_eq_getElem?_getD,List.getD_eq_getElem?_getD,List.getElem?_set]
 by_cases h:i=j
 · subst h
   by_cases h2:i<c.length
   · simp [h2]
   · simp [h2]
 · simp [h]
theorem zhh {c:List Str} {i j:Nat} {b:Str} (h:i≠j):sl (c.set i b) j=sl c j:=by rw [zv6,if_neg (fun h'=>h h'.1)]
theorem zpy {c:List Str} {i:Nat} {b:Str} (h:i<c.length):sl (c.set i b) i=b:=by rw [zv6,if_pos ⟨rfl,h⟩]
theorem zoj {c:List Str} {j:Nat} (h:j<c.length):c[j]?=some (sl c j):=by
 unfold sl;rw [List.getD_eq_getElem?_getD,List.getElem?_eq_getElem h];rfl
def zs6 (id:Nat) (x:Tw):Str:=zfe id++zfe (x.ver.toNat+1)++x.val
theorem zgm (id:Nat):∀ (l:List Tw) (c:List Str) (j:Nat),(∀ x∈l,x.rd=false→2 * x.key.toNat+1≠j)→sl (zcy id l c) j=sl c j
 | [],c,j,_=>rfl
 | x::l,c,j,h=>by
   rw [zcy,zgm id l _ j fun y hy=>h y (List.mem_cons_of_mem _ hy)]
   split
   · rfl
   · rename_i hr
     rw [zhh (h x List.mem_cons_self (by simpa using hr))]
theorem zrl (id:Nat):∀ (l:List Tw) (c:List Str),(l.map Tw.key).Nodup→(∀ x∈l,0≤x.key)→∀ x∈l,x.rd=false→2 * x.key.toNat+1<c.length→sl (zcy id l c) (2 * x.key.toNat+1)=zs6 id x
 | [],c,_,_,x,hx,_,_=>by cases hx
 | y::l,c,hn,h0,x,hx,hr,hl=>by
   rw [List.map_cons,List.nodup_cons] at hn
   rw [zcy]
   rcases List.mem_cons.1 hx with rfl|hx'
   · rw [zgm id l _ _ fun z hz _ he=>by
      have h1:=h0 z (List.mem_cons_of_mem _ hz)
      have h2:=h0 x List.mem_cons_self
      exact hn.1 ((show z.key=x.key by omega)▸List.mem_map_of_mem hz)]
     rw [hr,if_neg (by simp),zpy hl]
     rfl
   · refine zrl id l _ hn.2 (fun z hz=>h0 z (List.mem_cons_of_mem _ hz)) x hx' hr ?_
     split
     · exact hl
     · rw [List.length_set];exact hl
theorem zes:∀ (l:List Tw) (c:List Str) (j:Nat),(∀ x∈l,x.rd=false→2 * x.key.toNat+1≠j)→sl (zdn l c) j=sl c j
 | [],c,j,_=>rfl
 | x::l,c,j,h=>by
   rw [zdn,zes l _ j fun y hy=>h y (List.mem_cons_of_mem _ hy)]
   split
   · rfl
   · rename_i hr
     rw [zhh (h x List.mem_cons_self (by simpa using hr))]
theorem zll:∀ (l:List Tw) (c:List Str) (j:Nat),sl c j=[]→sl (zdn l c) j=[]
 | [],c,j,h=>h
 | x::l,c,j,h=>by
   rw [zdn]
   refine zll l _ j ?_
   split
   · exact h
   · rw [zv6];split
     · rfl
     · exact h
theorem zrm:∀ (l:List Tw) (c:List Str),∀ x∈l,x.rd=false→2 * x.key.toNat+1<c.length→sl (zdn l c) (2 * x.key.toNat+1)=[]
 | [],c,x,hx,_,_=>by cases hx
 | y::l,c,x,hx,hr,hl=>by
   rw [zdn]
   rcases List.mem_cons.1 hx with rfl|hx'
   · refine zll l _ _ ?_
     rw [hr,if_neg (by simp),zpy hl]
   · refine zrm l _ x hx' hr ?_
     split
     · exact hl
     · rw [List.length_set];exact hl
theorem zrn (id:Nat) (x:Tw) (c:List Str):(zsz id x c).length=c.length:=by
 unfold zsz
 split
 · rfl
 · split
   · rfl
   · split<;>simp
theorem zmn (id:Nat):∀ (l:List Tw) (c:List Str),(zio id l c).length=c.length
 | [],c=>rfl
 | x::l,c=>by rw [zio,zmn id l,zrn]
theorem zlm {id:Nat} {x:Tw} {c:List Str} {j:Nat} (h:x.rd=false→2 * x.key.toNat+1≠j∧2 * x.key.toNat≠j):sl (zsz id x c) j=sl c j:=by
 unfold zsz
 split
 · rfl
 · rename_i hr
   obtain ⟨h1,h2⟩:=h (by simpa using hr)
   split
   · rfl
   · split
     · rfl
     · rw [zhh h1,zhh h2]
theorem zia (id:Nat):∀ (l:List Tw) (c:List Str) (j:Nat),(∀ x∈l,x.rd=false→2 * x.key.toNat+1≠j∧2 * x.key.toNat≠j)→sl (zio id l c) j=sl c j
 | [],c,j,_=>rfl
 | x::l,c,j,h=>by
   rw [zio,zia id l _ j fun y hy=>h y (List.mem_cons_of_mem _ hy),zlm (h x List.mem_cons_self)]
theorem z1h (id:Nat) (x:Tw):zs6 id x≠[]:=by unfold zs6;rw [List.append_assoc];exact zvp _ _
theorem zyc {id:Nat} (h:id<281474976710656) (x:Tw):zsu (zs6 id x)=id:=by unfold zs6;rw [List.append_assoc];exact zrd h _
theorem zv7 (id:Nat) (x:Tw):(zs6 id x).drop 6=zfe (x.ver.toNat+1)++x.val:=by unfold zs6;rw [List.append_assoc,List.drop_left' (za2 id)]
theorem z1i {id:Nat} (hid:id<281474976710656) {x:Tw} {c:List Str} (hr:x.rd=false) (hl:2 * x.key.toNat+1<c.length) (hp:sl c (2 * x.key.toNat+1)=zs6 id x) :
 zsz id x c=(c.set (2 * x.key.toNat) (zfe (x.ver.toNat+1)++x.val)).set (2 * x.key.toNat+1) []:=by
 unfold zsz
 rw [hr,if_neg (by simp),zoj hl]
 simp only
 rw [hp,if_neg (by rw [zyc hid];rintro (h|h)<;>first|exact z1h _ _ h|exact h rfl),zv7]
theorem zpz {id:Nat} (hid:id<281474976710656):∀ (l:List Tw) (c:List Str),(l.map Tw.key).Nodup→(∀ x∈l,0≤x.key)→(∀ x∈l,x.rd=false→2 * x.key.toNat+1<c.length∧sl c (2 * x.key.toNat+1)=zs6 id x) →
 ∀ x∈l,x.rd=false→sl (zio id l c) (2 * x.key.toNat)=zfe (x.ver.toNat+1)++x.val∧sl (zio id l c) (2 * x.key.toNat+1)=[]
 | [],c,_,_,_,x,hx,_=>by cases hx
 | y::l,c,hn,h0,hp,x,hx,hr=>by
   rw [List.map_cons,List.nodup_cons] at hn
   have hy0:=h0 y List.mem_cons_self
   have hne:∀ z∈l,z.key.toNat≠y.key.toNat:=fun z hz he=>by
    have h1:=h0 z (List.mem_cons_of_mem _ hz)
    exact hn.1 ((show z.key=y.key by omega)▸List.mem_map_of_mem hz)
   rw [zio]
   rcases List.mem_cons.1 hx with rfl|hx'
   · obtain ⟨h1,h2⟩:=hp x List.mem_cons_self hr
     have oth:=fun j (hj:j=2 * x.key.toNat∨j=2 * x.key.toNat+1)=>zia id l (zsz id x c) j fun z hz _=>by
      have:=hne z hz
      constructor<;>omega
     rw [oth _ (.inl rfl),oth _ (.inr rfl),z1i hid hr h1 h2]
     exact ⟨by rw [zhh (by omega),zpy (by omega)],by rw [zpy (by rw [List.length_set];exact h1)]⟩
   · refine zpz hid l _ hn.2 (fun z hz=>h0 z (List.mem_cons_of_mem _ hz)) (fun z hz hzr=>?_) x hx' hr
     obtain ⟨h1,h2⟩:=hp z (List.mem_cons_of_mem _ hz) hzr
     rw [zrn]
     have:=hne z hz
     exact ⟨h1,by rw [zlm (fun _=>by constructor<;>omega),h2]⟩
abbrev Vl:=Int×Str
def eV (v:Vl):Str:=if v.1=0 then [] else zfe v.1.toNat++v.2
def vl (V:List Vl) (k:Nat):Vl:=V.getD k (0,[])
theorem zln (V:List Vl) (i j:Nat) (v:Vl):vl (V.set i v) j=if i=j∧i<V.length then v else vl V j:=by
 unfold vl
 rw [List.getD_eq_getElem?_getD,List.getD_eq_getElem?_getD,List.getElem?_set]
 by_cases h:i=j
 · subst h
   by_cases h2:i<V.length
   · simp [h2]
   · simp [h2]
 · simp [h]
def zfv:List Tw→List Vl→List Vl
 | [],V=>V
 | x::l,V=>zfv l (if x.rd then V else V.set x.key.toNat (x.ver+1,x.val))
theorem zmo:∀ (l:List Tw) (V:List Vl),(zfv l V).length=V.length
 | [],V=>rfl
 | x::l,V=>by rw [zfv,zmo l];split<;>simp
theorem zdh:∀ (l:List Tw) (V:List Vl) (k:Nat),(∀ x∈l,x.rd=false→x.key.toNat≠k)→vl (zfv l V) k=vl V k
 | [],V,k,_=>rfl
 | x::l,V,k,h=>by
   rw [zfv,zdh l _ k fun y hy=>h y (List.mem_cons_of_mem _ hy)]
   split
   · rfl
   · rename_i hr
     rw [zln,if_neg (fun h'=>h x List.mem_cons_self (by simpa using hr) h'.1)]
theorem zmp:∀ (l:List Tw) (V:List Vl),(l.map Tw.key).Nodup→(∀ x∈l,0≤x.key)→∀ x∈l,x.rd=false→x.key.toNat<V.length→vl (zfv l V) x.key.toNat=(x.ver+1,x.val)
 | [],V,_,_,x,hx,_,_=>by cases hx
 | y::l,V,hn,h0,x,hx,hr,hl=>by
   rw [List.map_cons,List.nodup_cons] at hn
   rw [zfv]
   rcases List.mem_cons.1 hx with rfl|hx'
   · rw [zdh l _ _ fun z hz _ he=>by
      have h1:=h0 z (List.mem_cons_of_mem _ hz)
      have h2:=h0 x List.mem_cons_self
      exact hn.1 ((show z.key=x.key by omega)▸List.mem_map_of_mem hz)]
     rw [hr,if_neg (by simp),zln,if_pos ⟨rfl,hl⟩]
   · refine zmp l _ hn.2 (fun z hz=>h0 z (List.mem_cons_of_mem _ hz)) x hx' hr ?_
     split
     · exact hl
     · rw [List.length_set];exact hl
def okV (v:Vl):Prop:=v=(0,[])∨1≤v.1∧v.1≤1099511627777∧v.2.length≤40
theorem z5y {v:Vl} (h:okV v):(eV v).length≤46:=by
 unfold eV
 rcases h with rfl|⟨h1,h2,h3⟩
 · simp
 · rw [if_neg (by omega),List.length_append,za2];omega
structure zgn (n:Nat) (c:List Str) (ws:List (Int×Wr)) (V:List Vl):Prop where
 n1:1≤n
 n16:n≤16
 len:c.length=2 * n+4
 vlen:V.length=n
 vok:∀ k,k<n→okV (vl V k)
 vals:∀ k,k<n→sl c (2 * k)=eV (vl V k)
 wsn:(ws.map (·.1)).Nodup
 ids:∀ p∈ws,1≤p.1∧p.1≤1099511627776
 rgt:∀ p∈ws,Rgt n p.2.l
 ins:InS n ws
 dif:∀ p∈ws,∀ p'∈ws,p.2.slot=p'.2.slot→p.1=p'.1
 note:∀ p∈ws,sl c p.2.slot.toNat=zda p.1.toNat 1 p.2.l
 free:∀ t,t<4→(∀ p∈ws,p.2.slot≠((2 * n+t:Nat):Int))→sl c (2 * n+t)=[]
 pend:∀ p∈ws,∀ x∈p.2.l,x.rd=false→sl c (2 * x.key.toNat+1)=zs6 p.1.toNat x
 none:∀ k,k<n→(∀ p∈ws,∀ x∈p.2.l,x.rd=false→x.key≠(k:Int))→sl c (2 * k+1)=[]
 ver:∀ p∈ws,∀ x∈p.2.l,(vl V x.key.toNat).1=x.ver
 lock:∀ p∈ws,∀ p'∈ws,p.1≠p'.1→∀ x∈p.2.l,∀ y∈p'.2.l,x.key=y.key→x.rd=true∧y.rd=true
theorem zok (id:Nat) (st:UInt8) (l:List Tw):(zda id st l).length=7+l.length:=by simp [zda,za2];omega
theorem zgn.fit {n:Nat} {c:List Str} {ws:List (Int×Wr)} {V:List Vl} (h:zgn n c ws V):∀ b∈c,b.length≤55:=by
 intro b hb
 obtain ⟨j,hj,rfl⟩:=List.mem_iff_getElem.1 hb
 have he:c[j]=sl c j:=by have:=zoj hj;rw [List.getElem?_eq_getElem hj] at this;exact Option.some.inj this
 rw [he]
 have hl:=h.len
 by_cases h1:2 * n≤j
 · by_cases h2:∀ p∈ws,p.2.slot≠((2 * n+(j - 2 * n):Nat):Int)
   · have:=h.free (j - 2 * n) (by omega) h2
     rw [show 2 * n+(j - 2 * n)=j by omega] at this
     rw [this];simp
   · obtain ⟨p,hp,hs⟩:∃ p∈ws,p.2.slot=((2 * n+(j - 2 * n):Nat):Int):=Classical.byContradiction fun h3=>h2 fun p hp hs=>h3 ⟨p,hp,hs⟩
     have:=h.note p hp
     rw [show p.2.slot.toNat=j by omega] at this
     rw [this,zok]
     have:=(h.rgt p hp).2.2.2
     omega
 · rcases (by omega:j=2 * (j / 2)∨j=2 * (j / 2)+1) with e|e
   · rw [e,h.vals (j / 2) (by omega)]
     have:=z5y (h.vok (j / 2) (by omega))
     omega
   · by_cases h2:∀ p∈ws,∀ x∈p.2.l,x.rd=false→x.key≠((j / 2:Nat):Int)
     · rw [e,h.none (j / 2) (by omega) h2];simp
     · obtain ⟨p,hp,x,hx,hr,hk⟩:∃ p∈ws,∃ x∈p.2.l,x.rd=false∧x.key=((j / 2:Nat):Int):=Classical.byContradiction fun h3=>h2 fun p hp x hx hr hk=>h3 ⟨p,hp,x,hx,hr,hk⟩
       have:=h.pend p hp x hx hr
       rw [show x.key.toNat=j / 2 by omega] at this
       rw [e,this]
       have:=((h.rgt p hp).1 x hx).2.2.2.2.1
       simp only [zs6,List.length_append,za2]
       omega
theorem zgn.shp {n:Nat} {c:List Str} {ws:List (Int×Wr)} {V:List Vl} (h:zgn n c ws V):Shp n c:=by
 refine ⟨h.n1,h.n16,h.len,h.fit,fun k hk=>?_⟩
 have hl:=h.len
 rw [zoj (by omega),h.vals k hk]
 unfold eV
 by_cases e:(vl V k).1=0
 · rw [if_pos e];exact .inl rfl
 · rw [if_neg e];exact .inr ⟨_,rfl,by rw [List.length_append,za2];omega⟩
theorem zgn.odd {n:Nat} {c:List Str} {ws:List (Int×Wr)} {V:List Vl} (h:zgn n c ws V):Odd n c:=by
 refine ⟨h.n16,h.len,h.fit,fun k hk=>?_⟩
 have hl:=h.len
 rw [zoj (by omega)]
 refine ⟨_,rfl,?_⟩
 by_cases h2:∀ p∈ws,∀ x∈p.2.l,x.rd=false→x.key≠(k:Int)
 · exact .inl (h.none k hk h2)
 · obtain ⟨p,hp,x,hx,hr,he⟩:∃ p∈ws,∃ x∈p.2.l,x.rd=false∧x.key=(k:Int):=Classical.byContradiction fun h3=>h2 fun p hp x hx hr hk=>h3 ⟨p,hp,x,hx,hr,hk⟩
   have:=h.pend p hp x hx hr
   rw [show x.key.toNat=k by omega] at this
   rw [this]
   exact .inr (by simp only [zs6,List.length_append,za2];omega)
theorem zgn.short {n:Nat} {c:List Str} {ws:List (Int×Wr)} {V:List Vl} (h:zgn n c ws V):z1d ws:=fun p hp=>by
 have:=(h.rgt p hp).2.2.2;omega
theorem zgn.wrOk {n:Nat} {c:List Str} {ws:List (Int×Wr)} {V:List Vl} (h:zgn n c ws V) (id:Int) (w:Wr) (hw:za4 ws id=some w):∃ s,WrOk n c w s:=by
 have hp:=zix hw
 have hi:=h.ins _ hp
 have hr:=h.rgt _ hp
 simp only at hi
 refine ⟨w.slot.toNat,by omega,by omega,by omega,?_,hr.2.2.2,fun x hx=>⟨(hr.1 x hx).1,(hr.1 x hx).2.1⟩⟩
 have:=h.note _ hp
 unfold sl at this
 rw [this,zok]
 omega
theorem zgn.getR {n:Nat} {c:List Str} {ws:List (Int×Wr)} {V:List Vl} (h:zgn n c ws V) (k:Int):getR n c k=if k<0∨(n:Int)≤k then (0,[],1) else ((vl V k.toNat).1,(vl V k.toNat).2,0):=by
 unfold Ytlejjdbmmdghmaa.getR
 by_cases hk:k<0∨(n:Int)≤k
 · rw [if_pos hk,if_pos hk]
 rw [if_neg hk,if_neg hk]
 have hl:=h.len
 have hk':k.toNat<n:=by omega
 rw [zoj (by omega),h.vals k.toNat hk']
 have ho:=h.vok k.toNat hk'
 generalize vl V k.toNat=v at ho
 rcases ho with rfl|⟨h1,h2,h3⟩
 · rfl
 · have e:eV v=zfe v.1.toNat++v.2:=by unfold eV;rw [if_neg (by omega)]
   rw [e]
   simp only
   rw [if_neg (zvp _ _),if_neg (by rw [List.length_append,za2];omega),zrd (by omega),List.drop_left' (za2 _)]
   obtain ⟨a,b⟩:=v
   simp only at h1 ⊢
   rw [Int.toNat_of_nonneg (by omega)]
theorem zgn.fresh {n:Nat} (h1:1≤n) (h2:n≤16):zgn n (List.replicate (2 * n+4) []) [] (List.replicate n (0,[])):=by
 have hs:∀ j,sl (List.replicate (2 * n+4) []) j=[]:=fun j=>by
  unfold sl;rw [List.getD_eq_getElem?_getD,List.getElem?_replicate];split<;>rfl
 have hv:∀ j,vl (List.replicate n (0,[])) j=(0,[]):=fun j=>by
  unfold vl;rw [List.getD_eq_getElem?_getD,List.getElem?_replicate];split<;>rfl
 refine ⟨h1,h2,by simp,by simp,fun k _=>.inl (hv k),fun k _=>by rw [hs,hv];rfl,by simp,?_,?_,?_,?_,?_,fun t _ _=>hs _,?_,fun k _ _=>hs _,?_,?_⟩<;>intro p hp<;>cases hp
end Go.Proofs.Ytlejjdbmmdghmaa
namespace Go.Proofs.Ytlejjdbmmdghmaa
open Go Go.E2 C22 C40
theorem zro {m:List (Int×Wr)} {id:Int} {w:Wr} (h:za4 m id=none) (p:Int×Wr):p∈zju m id w↔p=(id,w)∨p∈m:=by
 have:=zng (m:=m) id w
 rw [zg0 h] at this
 rw [this.mem_iff,List.mem_cons]
theorem zmq {n:Nat} {c:List Str} {ws:List (Int×Wr)} {id:Int} {l:List Tw} (h:zat n c ws id l=0) :
 1≤id∧id≤1099511627776∧Rgt n l∧za4 ws id=none∧l.any (zhf ws)=false∧zkg n c l=false∧za3 n ws<4:=by
 unfold zat at h
 by_cases c1:id<1∨1099511627776<id∨¬ Rgt n l
 · rw [if_pos c1] at h;simp at h
 rw [if_neg c1] at h
 by_cases c2:(za4 ws id).isSome
 · rw [if_pos c2] at h;simp at h
 rw [if_neg c2] at h
 by_cases c3:l.any (zhf ws)=true
 · rw [if_pos c3] at h;simp at h
 rw [if_neg c3] at h
 by_cases c4:zkg n c l=true
 · rw [if_pos c4] at h;simp at h
 rw [if_neg c4] at h
 by_cases c5:za3 n ws=4
 · rw [if_pos c5] at h;simp at h
 have:=zrg n ws
 refine ⟨by omega,by omega,Classical.byContradiction fun h'=>c1 (.inr (.inr h')),by simpa using c2,by simpa using c3,by simpa using c4,by omega⟩
theorem zib {ws:List (Int×Wr)} {l:List Tw} (h:l.any (zhf ws)=false) {x:Tw} (hx:x∈l) {p:Int×Wr} (hp:p∈ws) {y:Tw} (hy:y∈p.2.l) (e:y.key=x.key):y.rd=true∧x.rd=true:=by
 rw [List.any_eq_false] at h
 have h1:=h x hx
 unfold zhf at h1
 rw [Bool.not_eq_true,List.any_eq_false] at h1
 have h2:=h1 p hp
 rw [Bool.not_eq_true,List.any_eq_false] at h2
 have h3:=h2 y hy
 unfold zpu at h3
 rw [decide_eq_true e] at h3
 revert h3
 cases y.rd<;>cases x.rd<;>simp
theorem zgn.prep {n:Nat} {c:List Str} {ws:List (Int×Wr)} {V:List Vl} (h:zgn n c ws V) {id:Int} {l:List Tw} (he:zat n c ws id l=0) :
 zgn n (zh9 n c ws id.toNat l) (zof n ws id l) V:=by
 obtain ⟨i1,i2,hr,hn,hh,hst,hf⟩:=zmq he
 obtain ⟨r1,r2,r3,r4⟩:=hr
 have hl:=h.len
 have hm:=fun p=>zro (w:=⟨((2 * n+za3 n ws:Nat):Int),l⟩) hn p
 have hus:∀ p∈ws,p.2.slot≠((2 * n+za3 n ws:Nat):Int):=fun p hp hs=>by
  have:=zrh h.ins
  unfold zkv at this
  rw [List.any_eq_false] at this
  exact this p hp (by rw [decide_eq_true_eq];exact hs)
 have hs1:sl (zh9 n c ws id.toNat l) (2 * n+za3 n ws)=zda id.toNat 1 l:=by
  unfold zh9;rw [zpy (by rw [zhg];omega)]
 have hs2:∀ j,j≠2 * n+za3 n ws→sl (zh9 n c ws id.toNat l) j=sl (zcy id.toNat l c) j:=fun j hj=>by
  unfold zh9;rw [zhh (fun e=>hj e.symm)]
 have hs3:∀ j,j≠2 * n+za3 n ws→(∀ x∈l,x.rd=false→2 * x.key.toNat+1≠j)→sl (zh9 n c ws id.toNat l) j=sl c j:=fun j hj hx=>by
  rw [hs2 j hj,zgm _ _ _ _ hx]
 have hk:∀ x∈l,0≤x.key∧x.key<n:=fun x hx=>⟨(r1 x hx).1,(r1 x hx).2.1⟩
 refine ⟨h.n1,h.n16,by unfold zh9;rw [List.length_set,zhg,hl],h.vlen,h.vok,fun k hkn=>?_,zhv h.wsn _ _,?_,?_,?_,?_,?_,?_,?_,?_,?_,?_⟩
 · rw [hs3 _ (by omega) (fun x hx _=>by omega)];exact h.vals k hkn
 · intro p hp
   rcases (hm p).1 hp with rfl|hp
   · exact ⟨i1,i2⟩
   · exact h.ids p hp
 · intro p hp
   rcases (hm p).1 hp with rfl|hp
   · exact ⟨r1,r2,r3,r4⟩
   · exact h.rgt p hp
 · intro p hp
   rcases (hm p).1 hp with rfl|hp
   · simp only;omega
   · exact h.ins p hp
 · intro p hp p' hp' e
   rcases (hm p).1 hp with rfl|hp<;>rcases (hm p').1 hp' with rfl|hp'
   · rfl
   · exact absurd e.symm (hus p' hp')
   · exact absurd e (hus p hp)
   · exact h.dif p hp p' hp' e
 · intro p hp
   rcases (hm p).1 hp with rfl|hp
   · exact hs1
   · have hi:=h.ins p hp
     have hu:=hus p hp
     rw [hs3 _ (by omega) (fun x hx _=>by have:=hk x hx;omega)]
     exact h.note p hp
 · intro t ht hfr
   have h1:=hfr _ ((hm _).2 (.inl rfl))
   simp only at h1
   rw [hs3 _ (by omega) (fun x hx _=>by have:=hk x hx;omega)]
   exact h.free t ht fun p hp=>hfr p ((hm p).2 (.inr hp))
 · intro p hp x hx hxr
   rcases (hm p).1 hp with rfl|hp
   · have:=hk x hx
     rw [hs2 _ (by omega)]
     exact zrl _ _ _ r2 (fun y hy=>(hk y hy).1) x hx hxr (by omega)
   · have h1:=(h.rgt p hp).1 x hx
     rw [hs3 _ (by have:=h1.1;have:=h1.2.1;omega) (fun y hy hyr e=>by
      have h2:=hk y hy
      have h3:=zib hh hy hp hx (by have:=h1.1;omega)
      rw [hyr] at h3;simp at h3)]
     exact h.pend p hp x hx hxr
 · intro k hkn hno
   rw [hs3 _ (by omega) (fun x hx hxr e=>by
    have h2:=hk x hx
    exact hno _ ((hm _).2 (.inl rfl)) x hx hxr (by omega))]
   exact h.none k hkn fun p hp=>hno p ((hm p).2 (.inr hp))
 · intro p hp x hx
   rcases (hm p).1 hp with rfl|hp
   · have h2:=hk x hx
     unfold zkg at hst
     rw [List.any_eq_false] at hst
     have h3:=hst x hx
     rw [h.getR,if_neg (by omega)] at h3
     simpa using h3
   · exact h.ver p hp x hx
 · intro p hp p' hp' hne x hx y hy e
   rcases (hm p).1 hp with rfl|hp<;>rcases (hm p').1 hp' with rfl|hp'
   · exact absurd rfl hne
   · exact (zib hh hx hp' hy e.symm).symm
   · exact zib hh hy hp hx e
   · exact h.lock p hp p' hp' hne x hx y hy e
theorem zgn.dec {n:Nat} {c:List Str} {ws:List (Int×Wr)} {V:List Vl} (h:zgn n c ws V) {id:Int} {w:Wr} (hg:za4 ws id=some w) (commit:Bool) :
 zgn n (zkn commit id.toNat w.slot.toNat w.l c) (mdel ws id) (if commit then zfv w.l V else V):=by
 have hp0:=zix hg
 have hi0:=h.ids _ hp0
 have hs0:=h.ins _ hp0
 obtain ⟨r1,r2,r3,r4⟩:=h.rgt _ hp0
 simp only at hi0 hs0 r1 r2 r3 r4
 have hl:=h.len
 have hk:∀ x∈w.l,0≤x.key∧x.key<n:=fun x hx=>⟨(r1 x hx).1,(r1 x hx).2.1⟩
 have hm:=fun p=>ziw h.wsn (a:=id) (p:=p)
 have hpd:=h.pend _ hp0
 simp only at hpd
 -- what the slots are
 have hlen:(zkn commit id.toNat w.slot.toNat w.l c).length=2 * n+4:=by
  unfold zkn;cases commit
  · rw [if_neg (by simp),zkh,List.length_set,hl]
  · rw [if_pos rfl,List.length_set,zmn,List.length_set,hl]
 have hslot:sl (zkn commit id.toNat w.slot.toNat w.l c) w.slot.toNat=[]:=by
  unfold zkn;cases commit
  · rw [if_neg (by simp),zes _ _ _ (fun x hx _=>by have:=hk x hx;omega),zpy (by omega)]
  · rw [if_pos rfl,zpy (by rw [zmn,List.length_set];omega)]
 have hoth:∀ j,j≠w.slot.toNat→(∀ x∈w.l,x.rd=false→2 * x.key.toNat+1≠j∧2 * x.key.toNat≠j)→sl (zkn commit id.toNat w.slot.toNat w.l c) j=sl c j:=fun j hj hx=>by
  unfold zkn;cases commit
  · rw [if_neg (by simp),zes _ _ _ (fun x hx' hr=>(hx x hx' hr).1),zhh (fun e=>hj e.symm)]
  · rw [if_pos rfl,zhh (fun e=>hj e.symm),zia _ _ _ _ hx,zhh (fun e=>hj e.symm)]
 have hodd:∀ x∈w.l,x.rd=false→sl (zkn commit id.toNat w.slot.toNat w.l c) (2 * x.key.toNat+1)=[]:=fun x hx hr=>by
  have hkx:=hk x hx
  unfold zkn;cases commit
  · rw [if_neg (by simp),zrm _ _ x hx hr (by rw [List.length_set];omega)]
  · rw [if_pos rfl,zhh (by omega)]
    refine (zpz (by omega) w.l _ r2 (fun y hy=>(hk y hy).1) (fun y hy hyr=>?_) x hx hr).2
    have:=hk y hy
    rw [List.length_set,zhh (by omega)]
    exact ⟨by omega,hpd y hy hyr⟩
 have heven:∀ x∈w.l,x.rd=false→sl (zkn commit id.toNat w.slot.toNat w.l c) (2 * x.key.toNat)=if commit then zfe (x.ver.toNat+1)++x.val else sl c (2 * x.key.toNat):=fun x hx hr=>by
  have hkx:=hk x hx
  cases commit
  · unfold zkn
    rw [if_neg (by simp),if_neg (by simp),zes _ _ _ (fun y hy _=>by omega),zhh (by omega)]
  · unfold zkn
    rw [if_pos rfl,if_pos rfl,zhh (by omega)]
    refine (zpz (by omega) w.l _ r2 (fun y hy=>(hk y hy).1) (fun y hy hyr=>?_) x hx hr).1
    have:=hk y hy
    rw [List.length_set,zhh (by omega)]
    exact ⟨by omega,hpd y hy hyr⟩
 -- what the values are
 have hv1:∀ k,(∀ x∈w.l,x.rd=false→x.key.toNat≠k)→vl (if commit then zfv w.l V else V) k=vl V k:=fun k hx=>by
  cases commit
  · rfl
  · exact zdh _ _ _ hx
 have hv2:∀ x∈w.l,x.rd=false→vl (if commit then zfv w.l V else V) x.key.toNat=if commit then (x.ver+1,x.val) else vl V x.key.toNat:=fun x hx hr=>by
  cases commit
  · rfl
  · have:=hk x hx
    have hvl:=h.vlen
    exact zmp _ _ r2 (fun y hy=>(hk y hy).1) x hx hr (by omega)
 have hex:∀ k,(∀ x∈w.l,x.rd=false→x.key.toNat≠k)∨∃ x∈w.l,x.rd=false∧x.key.toNat=k:=fun k=>by
  by_cases h1:∃ x∈w.l,x.rd=false∧x.key.toNat=k
  · exact .inr h1
  · exact .inl fun x hx hr hk=>h1 ⟨x,hx,hr,hk⟩
 have hdif:∀ p∈ws,p.1≠id→p.2.slot≠w.slot:=fun p hp hne e=>hne (h.dif p hp _ hp0 e)
 refine ⟨h.n1,h.n16,hlen,?_,fun k hkn=>?_,fun k hkn=>?_,zfl h.wsn _,?_,?_,?_,?_,?_,?_,?_,?_,?_,?_⟩
 · cases commit
   · exact h.vlen
   · exact (zmo _ _).trans h.vlen
 · rcases hex k with h1|⟨x,hx,hr,rfl⟩
   · rw [hv1 k h1];exact h.vok k hkn
   · rw [hv2 x hx hr]
     cases commit
     · exact h.vok _ hkn
     · obtain ⟨o1,o2,o3,o4,o5,_⟩:=r1 x hx
       exact .inr ⟨by show 1≤x.ver+1;omega,by show x.ver+1≤_;omega,o5⟩
 · rcases hex k with h1|⟨x,hx,hr,rfl⟩
   · rw [hv1 k h1,hoth _ (by omega) (fun x hx hr=>by have:=h1 x hx hr;constructor<;>omega)]
     exact h.vals k hkn
   · rw [hv2 x hx hr,heven x hx hr]
     cases commit
     · exact h.vals _ hkn
     · obtain ⟨o1,o2,o3,o4,o5,_⟩:=r1 x hx
       unfold eV
       simp only [if_true]
       rw [if_neg (by omega),show (x.ver+1).toNat=x.ver.toNat+1 by omega]
 · exact fun p hp=>h.ids p ((hm p).1 hp).1
 · exact fun p hp=>h.rgt p ((hm p).1 hp).1
 · exact fun p hp=>h.ins p ((hm p).1 hp).1
 · exact fun p hp p' hp'=>h.dif p ((hm p).1 hp).1 p' ((hm p').1 hp').1
 · intro p hp
   obtain ⟨hp,hne⟩:=(hm p).1 hp
   have hi:=h.ins p hp
   have hd:=hdif p hp hne
   rw [hoth _ (by omega) (fun x hx _=>by have:=hk x hx;constructor<;>omega)]
   exact h.note p hp
 · intro t ht hfr
   by_cases e:2 * n+t=w.slot.toNat
   · rw [e];exact hslot
   · rw [hoth _ e (fun x hx _=>by have:=hk x hx;constructor<;>omega)]
     refine h.free t ht fun p hp=>?_
     by_cases e2:p.1=id
     · have:za4 ws p.1=some p.2:=zgd h.wsn hp
       rw [e2,hg] at this
       have:=Option.some.inj this
       rw [← this];omega
     · exact hfr p ((hm p).2 ⟨hp,e2⟩)
 · intro p hp x hx hr
   obtain ⟨hp,hne⟩:=(hm p).1 hp
   have h1:=(h.rgt p hp).1 x hx
   rw [hoth _ (by have:=h1.1;have:=h1.2.1;omega) (fun y hy hyr=>by
    have h2:=hk y hy
    have h3:y.key≠x.key:=fun e=>by
     have:=(h.lock p hp _ hp0 hne x hx y hy e.symm).1
     rw [hr] at this;simp at this
    have:=h1.1
    constructor<;>omega)]
   exact h.pend p hp x hx hr
 · intro k hkn hno
   rcases hex k with h1|⟨x,hx,hr,rfl⟩
   · rw [hoth _ (by omega) (fun x hx hr=>by have:=h1 x hx hr;constructor<;>omega)]
     refine h.none k hkn fun p hp x hx hr=>?_
     by_cases e2:p.1=id
     · have:za4 ws p.1=some p.2:=zgd h.wsn hp
       rw [e2,hg] at this
       have:=Option.some.inj this
       rw [← this] at hx
       have h2:=h1 x hx hr
       have:=hk x hx
       omega
     · exact hno p ((hm p).2 ⟨hp,e2⟩) x hx hr
   · exact hodd x hx hr
 · intro p hp x hx
   obtain ⟨hp,hne⟩:=(hm p).1 hp
   have h1:=(h.rgt p hp).1 x hx
   rw [hv1 _ (fun y hy hyr e=>by
    have h2:=hk y hy
    have:=(h.lock p hp _ hp0 hne x hx y hy (by have:=h1.1;omega)).2
    rw [hyr] at this;simp at this)]
   exact h.ver p hp x hx
 · exact fun p hp p' hp'=>h.lock p ((hm p).1 hp).1 p' ((hm p').1 hp').1
end Go.Proofs.Ytlejjdbmmdghmaa
