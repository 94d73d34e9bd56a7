/-
 Slices that grow in a field: nil,or a row of a block;and how a result that holds one becomes plain data.
 Conditions: none;definitions and laws.
-/
import Derived.Test.YtlejjdbmmdghmaaEN3
namespace Go.E2
def zt7:AV→AV
 | .d x=>.d (norm x)
 | .own _ es=>.d (norm (.list es))
 | .tup xs=>.tup (zh2 xs)
 | v=>v
theorem zhj.norm (xs:List D):zhj xs (zh2 xs):=by
 rw [zfc]
 refine ⟨by simp,fun j x y a b=>?_⟩
 rw [List.getElem?_map,a] at b
 cases b
 exact .inr rfl
theorem RLe.norm (r:AV):RLe r (zt7 r):=by
 cases r with
 | d x=>exact .le _ _ (.inr rfl)
 | own sz es=>exact .own sz es _ (.inr rfl)
 | tup xs=>exact .tup _ _ (zhj.norm xs)
 | _=>exact .refl _
theorem Fin.n {res:List zfz} {Q:AV→Prop} {h:zn fun (r:AV) (σ':List Hp) (G':Gh)=>σ'=[]∧G'=zel∧Q r} {ρ:Env} {L:Hp} {r:AV} (hf:fin res ρ [L] zel=some r) (hq:Q (zt7 r)):Fin res h (ρ,L,[],zel):=.ple hf (.norm r) hq
@[go_sem] theorem normA_d (x:D):zt7 (.d x)=.d (norm x):=rfl
@[go_sem] theorem z4u (sz:Nat) (es:List D):zt7 (.own sz es)=.d (norm (.list es)):=rfl
@[go_sem] theorem z4v (xs:List D):zt7 (.tup xs)=.tup (zh2 xs):=rfl
@[go_sem] theorem z74 (cs:List D):norm (.agg cs)=.agg (zh2 cs):=rfl
@[go_sem] theorem z4w (cs:List D):norm (.list cs)=.list (zh2 cs):=rfl
@[go_sem] theorem z4x:norm .nilS=.list []:=rfl
@[go_sem] theorem z4y (b:Bool):norm (.bool b)=.bool b:=rfl
@[go_sem] theorem z75 (k:IntKind) (n:Int):norm (.int k n)=.int k n:=rfl
@[go_sem] theorem z76 (s:List UInt8):norm (.str s)=.str s:=rfl
@[go_sem] theorem norm_gs (b o n c:Nat):norm (.gs b o n c)=.gs b o n c:=rfl
@[go_sem] theorem norm_gp (b o:Nat):norm (.gp b o)=.gp b o:=rfl
@[go_sem] theorem z4z:norm .nilP=.nilP:=rfl
@[go_sem] theorem z40:norm .nilF=.nilF:=rfl
@[go_sem] theorem norm_fn (f:FuncId):norm (.fn f)=.fn f:=rfl
@[go_sem] theorem z41:zh2 []=[]:=rfl
@[go_sem] theorem z2r (x:D) (xs:List D):zh2 (x::xs)=norm x::zh2 xs:=rfl
inductive GV (sz:Nat) (G:Gh):D→List D→Prop
 | nil:GV sz G .nilS []
 | row (b cap:Nat) (es cs:List D) (hb:G b=some cs) (hr:Row sz es.length cap es cs):GV sz G (.gs b 0 es.length cap) es
def GFr (x:D) (G G':Gh):Prop:=∀ b c,G b=some c→(∀ o n k,x≠.gs b o n k)→G' b=some c
theorem GV.all {sz:Nat} {G:Gh} {x:D} {es:List D} (h:GV sz G x es):es.all (za sz)=true:=by
 cases h with
 | nil=>rfl
 | row b cap es cs hb hr=>exact hr.all
theorem GV.len {sz:Nat} {G:Gh} {x:D} {es:List D} (h:GV sz G x es):z2p false (some x)=some (.d (.int .i64 es.length)):=by
 cases h<;>rfl
theorem GV.view {sz:Nat} {G:Gh} {x:D} {es:List D} (h:GV sz G x es):zbv G sz x=some (es.length,flat es):=by
 cases h with
 | nil=>rfl
 | row b cap es cs hb hr=>exact hr.view0 hb
structure Spot (c:D→AV):Prop where
 fd:∀ (b:Nat) (cs:List D) (x y:D),FD b cs x y→FA b cs (c x) (c y)
 nil:RLe (c .nilS) (c (.list []))
theorem zaq.le {P:Program} {f:FuncId} {vs:List AV} {σ:List Hp} {G:Gh} {Q Q2:AV→List Hp→Gh→Prop} (h:zaq P f vs σ G Q) (hq:∀ r σ' G',Q r σ' G'→∃ r',RLe r r'∧Q2 r' σ' G'):zaq P f vs σ G Q2:=by
 intro S ms w args m0 hsz hrel hargs hown
 refine (h S ms w args m0 hsz hrel hargs hown).mono fun v w' ⟨S',r,σ',G',hQ,hr,he,hsh,hret,hG⟩=>?_
 obtain ⟨r',hl,h2⟩:=hq _ _ _ hQ
 exact ⟨S',r',σ',G',h2,hr,he,hsh,hret.le hl,hG⟩
theorem zaq.plain {P:Program} {f:FuncId} {xs:List D} {Q:AV→Prop} {sz:Nat} (h:zaq P f (xs.map .d) [] zel fun r σ' G'=>σ'=[]∧(Q r∨∃ x es c,GV sz G' x es∧r=c x∧Spot c∧Q (c (.list es)))):zb2 P f xs Q:=by
 have h1:zaq P f (xs.map .d) [] zel fun r σ' _=>σ'=[]∧(Q r∨∃ c,r=c .nilS∧Spot c∧Q (c (.list []))):=by
  refine h.frz fun r σ' G' ⟨h1,h2⟩=>?_
  rcases h2 with h2|⟨x,es,c,hgv,rfl,hc,hQ⟩
  · exact .inl ⟨h1,.inl h2⟩
  · cases hgv with
    | nil=>exact .inl ⟨h1,.inr ⟨c,rfl,hc,hQ⟩⟩
    | row b cap es cs hb hr =>
     exact .inr ⟨b,cs,c (.list es),rfl,rfl,hb,hc.fd _ _ _ _ (.gs 0 es.length cap sz es (by have:=hr.ncs;omega) rfl hr.all (by rw [List.drop_zero,hr.eq])),h1,.inl hQ⟩
 have h2:zaq P f (xs.map .d) [] zel fun r σ' _=>σ'=[]∧Q r:=h1.le fun r σ' G' ⟨a,b⟩=>by
  rcases b with b|⟨c,rfl,hc,hQ⟩
  · exact ⟨r,.refl r,a,b⟩
  · exact ⟨_,hc.nil,a,hQ⟩
 exact h2.forget fun r σ' G' ⟨a,b⟩=>⟨zel,fun _=>.inl rfl,fun _=>.inl rfl,a,rfl,b⟩
end Go.E2
namespace Go.E2
@[go_sem] theorem cast_0:((0:Nat):Int)=0:=rfl
@[go_sem] theorem cast_1:((1:Nat):Int)=1:=rfl
section
variable {P:Program} {l:List (Nat×AV)} {L:Hp} {σ:List Hp} {G:Gh} {K:St→Prop} {ρ:Env}
end
theorem Row.idx {sz n cap:Nat} {es cs:List D} (h:Row sz n cap es cs) {i:Nat} (hi:i<es.length):zbo true sz (some cs) (i * sz)=some (.d (.agg es[i].cells)):=by
 have:=h.fits hi
 have h1:sz≤(cs.drop (i * sz)).length:=by rw [List.length_drop];omega
 simp only [zbo,zch,if_true,if_pos h1,h.get hi,Option.map_some]
theorem Row.fld {sz n cap:Nat} {es cs:List D} (h:Row sz n cap es cs) {i j:Nat} (hi:i<es.length) (hj:j<sz):zbo false 1 (some cs) (i * sz+j)=(es[i].cells[j]?).map .d:=by
 simp only [zbo,zch,Bool.false_eq_true,if_false,h.get1 hi hj]
theorem zt8 {pre mid post ys:List D} {n:Nat} (hp:pre.length=n) (hm:mid.length=ys.length):zbb (pre++mid++post) ys n=pre++ys++post:=by
 subst hp
 simp only [zbb]
 rw [List.append_assoc pre mid post,List.take_left,← hm,← List.append_assoc pre mid post]
 have e:pre.length+mid.length=(pre++mid).length:=by rw [List.length_append]
 rw [e,List.drop_left]
theorem zl2 {α:Type} (l a b:List α) (n:Nat) (h:l=a++b) (hn:a.length=n):l.take n=a∧l.drop n=b:=by
 subst h;subst hn;simp
theorem Row.ins {sz n cap i m:Nat} {es cs vs:List D} (h:Row sz n cap es cs) (hi:i≤n) (hv:vs.all (za sz)=true) (hm:vs.length=m) (hc:n+m≤cap) :
 Row sz (n+m) cap (es.take i++vs++es.drop i) (zbb (zbb cs (flat (es.drop i)) ((i+m) * sz)) (flat vs) (i * sz)):=by
 have hfl:=h.fl
 have hlen:=h.len
 have hall:(es.take i++vs++es.drop i).all (za sz)=true:=by rw [List.all_append,List.all_append,zb5 h.all,hv,zbd h.all];rfl
 have hl:(es.take i++vs++es.drop i).length=n+m:=by simp only [List.length_append,List.length_take,List.length_drop];omega
 have hB:(flat (es.drop i)).length=(n - i) * sz:=by rw [zu (zbd h.all i),List.length_drop,hlen]
 have hA:(flat (es.take i)).length=i * sz:=by rw [zu (zb5 h.all i),List.length_take,hlen,Nat.min_eq_left hi]
 have hV:(flat vs).length=m * sz:=by rw [zu hv,hm]
 have hroom:=h.room
 have h1:(n+m) * sz≤cap * sz:=Nat.mul_le_mul_right _ hc
 have h2:(i+m) * sz+(n - i) * sz=(n+m) * sz:=by rw [← Nat.add_mul];congr 1;omega
 have h3:(i+m) * sz=i * sz+m * sz:=Nat.add_mul _ _ _
 have hlo:(zbb (zbb cs (flat (es.drop i)) ((i+m) * sz)) (flat vs) (i * sz)).length=cs.length:=by
  rw [zcn,zcn]<;>(try rw [zcn])<;>omega
 refine ⟨hl,hall,hc,by rw [hlo];exact hroom,?_⟩
 have hcs:cs=flat (es.take i)++(flat (es.drop i)++cs.drop (n * sz)):=by
  rw [← List.append_assoc,← zbc,List.take_append_drop];exact h.split
 have e1:cs.take (i * sz)=flat (es.take i):=(zl2 _ _ _ _ hcs hA).1
 have e2:(zbb cs (flat (es.drop i)) ((i+m) * sz)).take (i * sz)=flat (es.take i):=by
  simp only [zbb]
  rw [List.append_assoc,List.take_append_of_le_length (by rw [List.length_take];omega),List.take_take,Nat.min_eq_left (by omega),e1]
 have e3:(zbb cs (flat (es.drop i)) ((i+m) * sz)).drop (i * sz+m * sz)=flat (es.drop i)++cs.drop ((i+m) * sz+(n - i) * sz):=by
  simp only [zbb,hB]
  rw [List.append_assoc]
  exact (zl2 _ _ _ _ rfl (by rw [List.length_take];omega)).2
 rw [zbc,zbc]
 have e4:zbb (zbb cs (flat (es.drop i)) ((i+m) * sz)) (flat vs) (i * sz)=flat (es.take i)++flat vs++flat (es.drop i)++cs.drop ((i+m) * sz+(n - i) * sz):=by
  have e0:∀ (a b:List D) (k:Nat),zbb a b k=a.take k++b++a.drop (k+b.length):=fun _ _ _=>rfl
  rw [e0 _ (flat vs),e2,hV,e3]
  simp only [List.append_assoc]
 rw [e4]
 refine (zl2 _ _ _ _ rfl ?_).1
 simp only [List.length_append,hA,hV,hB]
 rw [← h2,h3]
def FDL (b:Nat) (cs xs ys:List D):Prop:=ys.length=xs.length∧∀ (j:Nat) (x y:D),xs[j]?=some x→ys[j]?=some y→FD b cs x y
theorem FDL.nil {b:Nat} {cs:List D}:FDL b cs [] []:=⟨rfl,fun j x y h=>by simp at h⟩
theorem FDL.cons {b:Nat} {cs xs ys:List D} {x y:D} (h:FD b cs x y) (hs:FDL b cs xs ys):FDL b cs (x::xs) (y::ys):=by
 refine ⟨by simp [hs.1],fun j u v a b=>?_⟩
 cases j with
 | zero=>simp at a b;subst a;subst b;exact h
 | succ j=>exact hs.2 j u v (by simpa using a) (by simpa using b)
theorem FDL.agg {b:Nat} {cs xs ys:List D} (h:FDL b cs xs ys):FD b cs (.agg xs) (.agg ys):=FD.agg xs ys h.1 h.2
theorem FDL.tup {b:Nat} {cs xs ys:List D} (h:FDL b cs xs ys):FA b cs (.tup xs) (.tup ys):=FA.tup xs ys h.1 h.2
theorem GV.inv {sz:Nat} {G:Gh} {x:D} {es:List D} (h:GV sz G x es) (hn:es≠[]):∃ b cap cs,x=.gs b 0 es.length cap∧G b=some cs∧Row sz es.length cap es cs:=by
 cases h with
 | nil=>exact absurd rfl hn
 | row b cap es cs hb hr=>exact ⟨b,cap,cs,rfl,hb,hr⟩
theorem GV.shape {sz:Nat} {G:Gh} {x:D} {es:List D} (h:GV sz G x es):x=.nilS∨∃ b n cap,x=.gs b 0 n cap:=by
 cases h with
 | nil=>exact .inl rfl
 | row b cap es cs hb hr=>exact .inr ⟨_,_,_,rfl⟩
theorem GV.mk {sz n cap b:Nat} {G:Gh} {es cs:List D} (hb:G b=some cs) (h:Row sz n cap es cs):GV sz G (.gs b 0 n cap) es:=by
 have:=h.len
 subst this
 exact .row b cap es cs hb h
theorem zw8 (k:Nat) (z:List D):rep k z=flat (List.replicate k (.agg z)):=by
 induction k with
 | zero=>rfl
 | succ k ih=>simp only [List.replicate_succ,z7,← ih,D.cells];simp [rep,List.replicate_succ]
end Go.E2
namespace Go.E2
attribute [go_sem] List.length_take List.length_drop
def wGd (o:Option (AV×Gh)) {k:AV→Gh→Prop} (_:zn k):Prop:=∃ v G',o=some (v,G')∧k v G'
@[go_sem] theorem z77 (v:AV) (G':Gh) {k:AV→Gh→Prop} (h:zn k):wGd (some (v,G')) h=k v G':=by
  simp only [wGd,Option.some.injEq,Prod.mk.injEq,eq_iff_iff]
  exact ⟨fun ⟨_,_,⟨a,b⟩,c⟩=>by subst a;subst b;exact c,fun c=>⟨_,_,⟨rfl,rfl⟩,c⟩⟩
theorem zjr {o:Option (AV×Gh)} {v:AV} {G':Gh} {k:AV→Gh→Prop} {h:zn k} (ho:o=some (v,G')) (hk:k v G'):wGd o h:=⟨v,G',ho,hk⟩
def wGn (k:GN) (vs:List D) (G:Gh) {R:AV→Gh→Prop} (_:zn R):Prop:=gnW k vs G R
section
variable {P:Program} {os:List AI} {l:List (Nat×AV)} {L:Hp} {σ:List Hp} {G:Gh} {K:St→Prop}
@[go_sem ↓] theorem regW_gd {d:Option Nat} {k:GD} {args:List AO}:zab P (⟨d,.gd k args,none⟩::os) (E l) L σ G K=wB (zx (E l) args) (zn.mk (a:=fun vs=>wGd (gdD k vs G) (zn.mk (a:=fun v G'=>zab P os (put (E l) d v) L σ G' K)))):=by
  rw [zd1 (fun _=>rfl)]
  simp only [zk,wB,wGd,eq_iff_iff]
  cases zx (E l) args with
  | none=>simp
  | some vs =>
   simp only [Option.map_eq_some_iff,Option.some.injEq,exists_eq_left']
   constructor
   · rintro ⟨st,⟨⟨v,G'⟩,hv,rfl⟩,hk⟩;exact ⟨v,G',hv,hk⟩
   · rintro ⟨v,G',hv,hk⟩;exact ⟨_,⟨(v,G'),hv,rfl⟩,hk⟩
@[go_sem ↓] theorem regW_gn {d:Option Nat} {k:GN} {args:List AO}:zab P (⟨d,.gn k args,none⟩::os) (E l) L σ G K=wB (zx (E l) args) (zn.mk (a:=fun vs=>wGn k vs G (zn.mk (a:=fun v G'=>zab P os (put (E l) d v) L σ G' K)))):=by
  simp only [zab,zag,zar,zb9,wB,wGn,eq_iff_iff]
  cases zx (E l) args with
  | none=>simp
  | some vs=>simp
end
section
variable {G:Gh} {R:AV→Gh→Prop} {h:zn R}
@[go_sem] theorem z42 (z:List D):wGn (.alloc z) [] G h=z0d (zn.mk (a:=fun b=>R (.d (.gp b 0)) (G.set b (some z)))) G:=rfl
@[go_sem] theorem wGn_box (n:Nat) (x:D):wGn (.box n) [x] G h=wT (za n x) (zn.mk (a:=wL x.cells (zn.mk (a:=fun cs=>z0d (zn.mk (a:=fun b=>R (.d (.gp b 0)) (G.set b (some cs)))) G)))):=rfl
def z43 {k:Nat→Prop} (_:zn k) (G:Gh):Prop:=∀ b,G.m b=none→k b
theorem zqn {k:Nat→Prop} {h:zn k} {G:Gh} (hk:∀ b,G.m b=none→k b):z43 h G:=hk
@[go_sem] theorem wGn_mkM:wGn .mkM [] G h=z43 (zn.mk (a:=fun r=>R (.d (.mref r)) (G.setM r (some (.map [] 0))))) G:=rfl
@[go_sem] theorem z78 (sz by_:Nat) (z:List D) (k k':IntKind) (n c:Int):wGn (.mkSl sz by_ z) [.int k n,.int k' c] G h=wP (0≤n∧n≤c∧c.toNat * by_≤mostBytes) (zn.mk (a:=z0d (zn.mk (a:=fun b=>R (.d (.gs b 0 n.toNat c.toNat)) (G.set b (some (rep c.toNat z))))) G)):=by
  simp only [wGn,gnW,wP,z0d,and_assoc]
@[go_sem] theorem gdD_clo (f:FuncId) (ds:List D):gdD (.clo f) ds G=if ds.all D.one=true then some (.d (.clo f ds),G) else none:=by simp only [gdD]
@[go_sem] theorem z44 (neg:Bool):gdD (.pnil 0 neg) [.nilP] G=some (.d (.bool (!neg)),G):=rfl
@[go_sem] theorem z2s (neg:Bool) (b o:Nat):gdD (.pnil 0 neg) [.gp b o] G=some (.d (.bool neg),G):=rfl
@[go_sem] theorem z45 (neg:Bool):gdD (.pnil 1 neg) [.nilM] G=some (.d (.bool (!neg)),G):=rfl
@[go_sem] theorem z2t (neg:Bool) (r:Nat):gdD (.pnil 1 neg) [.mref r] G=some (.d (.bool neg),G):=rfl
@[go_sem] theorem z47 (neg:Bool):gdD (.pnil 2 neg) [.nilF] G=some (.d (.bool (!neg)),G):=rfl
@[go_sem] theorem z2u (neg:Bool) (f:FuncId):gdD (.pnil 2 neg) [.fn f] G=some (.d (.bool neg),G):=rfl
@[go_sem] theorem z2v (neg:Bool) (f:FuncId) (ds:List D):gdD (.pnil 2 neg) [.clo f ds] G=some (.d (.bool neg),G):=rfl
@[go_sem] theorem z79 (sz:Nat) (z:List D):gdD (.clr sz z) [.nilS] G=some (.tup [],G):=rfl
theorem z0e {x:D} {n:Nat} {cs:List D} {s:List UInt8} (hv:zbv G 1 x=some (n,cs)) (hs:zbh cs=some s):gdD .b2s [x] G=some (.d (.str s),G):=by
 simp only [gdD,hv,hs,Option.map_some]
end
@[go_sem] theorem z0f:zbh []=some []:=rfl
@[go_sem] theorem zy0 (n:Int) (xs:List D):zbh (.int .u8 n::xs)=(zbh xs).map fun l=>UInt8.ofNat n.toNat::l:=by simp only [zbh];cases zbh xs<;>rfl
@[go_sem] theorem vB2s_c (n:Int) (xs:List D):zz6 (some (.list (.int .u8 n::xs)))=(zbh (.int .u8 n::xs)).map fun l=>.d (.str l):=rfl
@[go_sem] theorem z2w (f:FuncId) (ds:List D):target (.d (.clo f ds))=some (f,ds.map .d):=rfl
attribute [go_sem] Gh.set_c Gh.set_m Gh.setM_c Gh.setM_m
@[go_sem,simp] theorem zjs {α:Type} (f:Nat→α) (i:Nat) (v:α):upd f i v i=v:=by simp [upd]
theorem zd3 {α:Type} {f:Nat→α} {i j:Nat} {v:α} (h:j≠i):upd f i v j=f j:=by simp [upd,h]
section
variable {P:Program} {κ:zay→St→Prop} {ρ:Env} {L:Hp} {σ:List Hp} {G:Gh} {K:St→Prop}
theorem wC_gc {d:Option Nat} {f:AO} {args:List AO} {g:FuncId} {xs cs:List D} {Q:AV→Gh→Prop} {h:zn K}
 (hc:zaq P g ((xs++cs).map .d) (L::σ) G fun r σ' G'=>σ'=L::σ∧Q r G') (ht:target (ev ρ f)=some (g,cs.map .d)) (hd:zx ρ args=some xs) (hK:∀ r G',Q r G'→K (put ρ d r,L,σ,G')):wC P d f args 0 ρ L σ G h:=by
 show zcw P d f args 0 ρ L σ G K
 unfold zcw
 rw [ht]
 simp only [if_true]
 have e:(args.map (ev ρ)++cs.map AV.d).map sh=(xs++cs).map AV.d:=by
  rw [List.map_append,zfk hd,List.map_append,List.map_map];rfl
 rw [e]
 exact hc.mono fun r lv G' ⟨h1,h3⟩=>by subst h1;exact hK r G' h3
theorem wC_y {d:Option Nat} {f:AO} {args:List AO} {l:Nat} {xs:List D} {Q:AV→Gh→Prop} {h:zn K}
 (hc:zko P l xs (L::σ) G fun r σ' G'=>σ'=L::σ∧Q r G') (hf:ev ρ f=.d (.yld l)) (hd:zx ρ args=some xs) (hK:∀ r G',Q r G'→K (put ρ d r,L,σ,G')):wC P d f args 0 ρ L σ G h:=by
 show zcw P d f args 0 ρ L σ G K
 unfold zcw
 rw [hf]
 simp only [target,zwb,hd,if_true]
 exact hc.mono fun r lv G' ⟨h1,h3⟩=>by subst h1;exact hK r G' h3
theorem W.rangeF [DD] {h:zn κ} {f:AO} {ps:List Nat} {c1 c2:ACode} {g:FuncId} {caps:List D} (hcd:zez P g) (ht:target (ev ρ f)=some (g,caps.map .d))
 (hx:∀ l,G.m l=none→zaq P g ((.yld l::caps).map .d) (L::σ) (G.setM l (some (.loop P ρ ps c1 c2))) fun _ lv G'=>lv=L::σ ∧
   ((G'.m l=some (.loop P ρ ps c1 c2)∧κ .normal (ρ,L,σ,G'.setM l none))∨∃ e,G'.m l=some (.done e)∧e≠.normal∧κ e (ρ,L,σ,G'.setM l none))):W P (.rangeF f ps c1 c2) h (ρ,L,σ,G):=by
 refine SW.rangeF hcd ht fun l hl=>?_
 have e:(caps.map AV.d).map sh=caps.map AV.d:=by rw [List.map_map];rfl
 rw [e]
 exact (hx l hl).mono fun r lv G' ⟨h1,h2⟩=>⟨h1,h2.imp (fun ⟨a,b⟩=>⟨_,a,b⟩) id⟩
theorem zsa (hm:P.follows .mixedOrders=true) {l:Nat} {l0:List (Nat×AV)} {ps:List Nat} {c1 c2:ACode} {vs:List D} {Q:AV→List Hp→Gh→Prop} (hl:G.m l=some (.loop P (E l0) ps c1 c2)) (hlen:vs.length=ps.length) {l1:List (Nat×AV)}
 (hl1:∀ i,VLe (ze2 (zd0 (E l0)) ps vs i) (E l1 i))
 (h:W P c1 (zn.mk (a:=zay.then (fun st'=>W P c2 (zn.mk (a:=z8g P l (E l0) ps c1 c2 Q)) st') fun _ _=>False)) (E l1,HB [],σ,G.setM l none)):zko P l vs σ G Q :=
 zoy hm hl hlen (SW.weaken (st':=(E l1,HB [],σ,G.setM l none)) ⟨hl1,fun _=>BLe.refl _,rfl,GLe.refl _⟩ h)
theorem zsb (l:List (Nat×AV)) (l':List (Nat×D)) (h:∀ p∈l',E l p.1=.d p.2):∀ i,VLe (zd0 (E l) i) (E (l'.map fun p=>(p.1,.d p.2)) i):=by
 intro i
 induction l' with
 | nil=>exact .undef _
 | cons p l' ih =>
  obtain ⟨j,v⟩:=p
  simp only [List.map_cons,E]
  split
  · rename_i e
    subst e
    have:=h _ List.mem_cons_self
    simp only at this
    simp only [zd0,this,AV.data]
    exact .refl _
  · exact ih fun q hq=>h q (List.mem_cons_of_mem _ hq)
end
structure GTo (x x':D) (G G':Gh):Prop where
 fr:GFr x G G'
 sep:∀ b c,G b=some c→(∀ o n k,x≠.gs b o n k)→∀ o n k,x'≠.gs b o n k
 m:G'.m=G.m
theorem GTo.refl (x:D) (G:Gh):GTo x x G G:=⟨fun _ _ h _=>h,fun _ _ _ h=>h,rfl⟩
theorem zg4 {sz by_:Nat} {z:List D} {x y:D} {es es2:List D} {m d:Nat} {l:List (Nat×AV)} {L:Hp} {σ:List Hp} {G:Gh} {K:St→Prop} {h:zn K} (hx:GV sz G x es) (hv:zbv G sz y=some (m,flat es2)) (hm:es2.length=m) (ha:es2.all (za sz)=true) (hz:z.length=sz) (hb:(es.length+m) * by_≤mostBytes)
 (hK:∀ x' G',GV sz G' x' (es++es2)→GTo x x' G G'→K (E ((d,.d x')::l),L,σ,G')):z4q (some d) sz by_ z x y (E l) L σ G h:=by
 refine zt6 hv ?_
 have fr:∀ {b' cs' o n k},G b'=none→GTo x (.gs b' o n k) G (G.set b' (some cs')):=by
  intro b' cs' o n k hb'
  refine ⟨?_,?_,rfl⟩
  · intro b c hbc _
    rw [Gh.set_c];unfold upd;split
    · rename_i e;subst e;rw [hb'] at hbc;cases hbc
    · exact hbc
  · rintro b c hbc _ o' n' k' e
    cases e
    rw [hb'] at hbc;cases hbc
 cases hx with
 | nil =>
  refine zw6 hz hm ha (by simpa using hb) (fun h0=>?_) (fun h0 b cap cs hb' hr=>?_)
  · have e:es2=[]:=List.eq_nil_of_length_eq_zero (by omega)
    subst e
    exact hK _ _ .nil (GTo.refl _ _)
  · have h1:=GV.row (sz:=sz) (G:=G.set b (some cs)) b cap es2 cs (by simp [upd]) (by rw [hm];exact hr)
    rw [hm] at h1
    exact hK _ _ h1 (fr hb')
 | row b cap es cs hbb hr =>
  have el:(es++es2).length=es.length+m:=by simp [hm]
  refine zw7 hbb hr hz hm ha hb (fun cs' hc hr'=>?_) (fun b' cap' cs' hc hb' hr'=>?_)
  · have h1:=GV.row (sz:=sz) (G:=G.set b (some cs')) b cap (es++es2) cs' (by simp [upd]) (by rw [el];exact hr')
    rw [el] at h1
    refine hK _ _ h1 ⟨fun b2 c2 h2 hne=>?_,fun b2 c2 h2 hne o n k e=>?_,rfl⟩
    · rw [Gh.set_c];unfold upd;split
      · rename_i e;subst e;exact absurd rfl (hne _ _ _)
      · exact h2
    · cases e;exact hne _ _ _ rfl
  · have h1:=GV.row (sz:=sz) (G:=G.set b' (some cs')) b' cap' (es++es2) cs' (by simp [upd]) (by rw [el];exact hr')
    rw [el] at h1
    exact hK _ _ h1 (fr hb')
theorem GV.set {sz:Nat} {G:Gh} {x:D} {es:List D} (h:GV sz G x es) {b:Nat} {v:Option (List D)} (hne:∀ o n k,x≠.gs b o n k):GV sz (G.set b v) x es:=by
 cases h with
 | nil=>exact .nil
 | row b2 cap es cs hb hr =>
  refine .row b2 cap es cs ?_ hr
  rw [Gh.set_c,zd3 (by rintro rfl;exact hne _ _ _ rfl)];exact hb
theorem GV.setM {sz:Nat} {G:Gh} {x:D} {es:List D} (h:GV sz G x es) {b:Nat} {v:Option MO}:GV sz (G.setM b v) x es:=by
 cases h with
 | nil=>exact .nil
 | row b2 cap es cs hb hr=>exact .row b2 cap es cs hb hr
theorem GV.of {sz:Nat} {G G':Gh} {x:D} {es:List D} (h:GV sz G x es) (hg:∀ b c o n k,x=.gs b o n k→G b=some c→G' b=some c):GV sz G' x es:=by
 cases h with
 | nil=>exact .nil
 | row b2 cap es cs hb hr=>exact .row b2 cap es cs (hg _ _ _ _ _ rfl hb) hr
def zt9 (h h':List (Nat×Blk)):Prop:=∀ s,BLe (HB h s) (HB h' s)
theorem zt9.refl (h:List (Nat×Blk)):zt9 h h:=fun _=>BLe.refl _
theorem zt9.same {h h':List (Nat×Blk)} (i:Nat) (b:Blk) (hh:zt9 h h'):zt9 ((i,b)::h) ((i,b)::h'):=fun s=>by
 simp only [HB];split
 · exact BLe.refl _
 · exact hh s
theorem zt9.box {h h':List (Nat×Blk)} (i g:Nat) {cs cs':List D} (hc:zhj cs cs') (hh:zt9 h h'):zt9 ((i,⟨g,some cs⟩)::h) ((i,⟨g,some cs'⟩)::h'):=fun s=>by
 simp only [HB];split
 · exact ⟨rfl,.inr ⟨cs,cs',rfl,rfl,hc⟩⟩
 · exact hh s
theorem zt9.pad {h h':List (Nat×Blk)} (hh:zt9 h h') (ss:List Nat) (hs:(ss.all fun s=>!(h'.map (·.1)).contains s)=true):zt9 h (h'++ss.map fun s=>(s,⟨0,none⟩)):=fun s=>by
 rw [zdr h' ss hs];exact hh s
theorem zht {P:Program} {gs:List Nat} {f:FuncId} {af:AFunc} (h:zj P gs f=some af):zez P f:=by
 obtain ⟨fn,c,hfn,hb,hng,_⟩:=zf7 h
 exact ⟨fn,c,hfn,hb,hng⟩
end Go.E2
