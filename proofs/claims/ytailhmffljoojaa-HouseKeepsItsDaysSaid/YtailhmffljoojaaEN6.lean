/-
 Slices that grow in a field: nil,or a row of a block;and how a result that holds one becomes plain data.
 Conditions: none;definitions and laws.
-/
import Derived.Test.YtailhmffljoojaaEN5
namespace Go.E2
def zqs:AV→AV
 | .d x=>.d (norm x)
 | .own _ es=>.d (norm (.list es))
 | .tup xs=>.tup (zg1 xs)
 | v=>v
theorem zga.norm (xs:List D):zga xs (zg1 xs):=by
 rw [zeu]
 refine ⟨by simp,fun j x y a b=>?_⟩
 rw [List.getElem?_map,a] at b
 cases b
 exact .inr rfl
theorem RLe.norm (r:AV):RLe r (zqs r):=by
 cases r with
 | d x=>exact .le _ _ (.inr rfl)
 | own sz es=>exact .own sz es _ (.inr rfl)
 | tup xs=>exact .tup _ _ (zga.norm xs)
 | _=>exact .refl _
theorem Fin.n {res:List zft} {Q:AV→Prop} {h:zk fun (r:AV) (σ':List Hp) (G':Gh)=>σ'=[]∧G'=noGh∧Q r} {ρ:Env} {L:Hp} {r:AV} (hf:fin res ρ [L] noGh=some r) (hq:Q (zqs r)):Fin res h (ρ,L,[],noGh):=.ple hf (.norm r) hq
@[go_sem] theorem z53 (x:D):zqs (.d x)=.d (norm x):=rfl
@[go_sem] theorem z0t (sz:Nat) (es:List D):zqs (.own sz es)=.d (norm (.list es)):=rfl
@[go_sem] theorem z0u (xs:List D):zqs (.tup xs)=.tup (zg1 xs):=rfl
@[go_sem] theorem z31 (cs:List D):norm (.agg cs)=.agg (zg1 cs):=rfl
@[go_sem] theorem z0v (cs:List D):norm (.list cs)=.list (zg1 cs):=rfl
@[go_sem] theorem z0w:norm .nilS=.list []:=rfl
@[go_sem] theorem z0x (b:Bool):norm (.bool b)=.bool b:=rfl
@[go_sem] theorem z32 (k:IntKind) (n:Int):norm (.int k n)=.int k n:=rfl
@[go_sem] theorem z33 (s:List UInt8):norm (.str s)=.str s:=rfl
@[go_sem] theorem z54 (b o n c:Nat):norm (.gs b o n c)=.gs b o n c:=rfl
@[go_sem] theorem z55 (b o:Nat):norm (.gp b o)=.gp b o:=rfl
@[go_sem] theorem z0y:norm .nilP=.nilP:=rfl
@[go_sem] theorem z0z:norm .nilF=.nilF:=rfl
@[go_sem] theorem z56 (f:FuncId):norm (.fn f)=.fn f:=rfl
@[go_sem] theorem z00:zg1 []=[]:=rfl
@[go_sem] theorem zyv (x:D) (xs:List D):zg1 (x::xs)=norm x::zg1 xs:=rfl
inductive GV (sz:Nat) (G:Gh):D→List D→Prop
 | nil:GV sz G .nilS []
 | row (b cap:Nat) (es cs:List D) (hb:G b=some cs) (hr:Row sz es.length cap es cs):GV sz G (.gs b 0 es.length cap) es
def GFr (x:D) (G G':Gh):Prop:=∀ b c,G b=some c→(∀ o n k,x≠.gs b o n k)→G' b=some c
theorem GV.all {sz:Nat} {G:Gh} {x:D} {es:List D} (h:GV sz G x es):es.all (za sz)=true:=by
 cases h with
 | nil=>rfl
 | row b cap es cs hb hr=>exact hr.all
theorem GV.len {sz:Nat} {G:Gh} {x:D} {es:List D} (h:GV sz G x es):zyt false (some x)=some (.d (.int .i64 es.length)):=by
 cases h<;>rfl
theorem GV.view {sz:Nat} {G:Gh} {x:D} {es:List D} (h:GV sz G x es):zbc G sz x=some (es.length,flat es):=by
 cases h with
 | nil=>rfl
 | row b cap es cs hb hr=>exact hr.view0 hb
structure z7z (c:D→AV):Prop where
 fd:∀ (b:Nat) (cs:List D) (x y:D),FD b cs x y→FA b cs (c x) (c y)
 nil:RLe (c .nilS) (c (.list []))
theorem zam.le {P:Program} {f:FuncId} {vs:List AV} {σ:List Hp} {G:Gh} {Q Q2:AV→List Hp→Gh→Prop} (h:zam P f vs σ G Q) (hq:∀ r σ' G',Q r σ' G'→∃ r',RLe r r'∧Q2 r' σ' G'):zam P f vs σ G Q2:=by
 intro S ms w args m0 hsz hrel hargs hown
 refine (h S ms w args m0 hsz hrel hargs hown).mono fun v w' ⟨S',r,σ',G',hQ,hr,he,hsh,hret,hG⟩=>?_
 obtain ⟨r',hl,h2⟩:=hq _ _ _ hQ
 exact ⟨S',r',σ',G',h2,hr,he,hsh,hret.le hl,hG⟩
theorem zam.plain {P:Program} {f:FuncId} {xs:List D} {Q:AV→Prop} {sz:Nat} (h:zam P f (xs.map .d) [] noGh fun r σ' G'=>σ'=[]∧(Q r∨∃ x es c,GV sz G' x es∧r=c x∧z7z c∧Q (c (.list es)))):za2 P f xs Q:=by
 have h1:zam P f (xs.map .d) [] noGh fun r σ' _=>σ'=[]∧(Q r∨∃ c,r=c .nilS∧z7z c∧Q (c (.list []))):=by
  refine h.frz fun r σ' G' ⟨h1,h2⟩=>?_
  rcases h2 with h2|⟨x,es,c,hgv,rfl,hc,hQ⟩
  · exact .inl ⟨h1,.inl h2⟩
  · cases hgv with
    | nil=>exact .inl ⟨h1,.inr ⟨c,rfl,hc,hQ⟩⟩
    | row b cap es cs hb hr =>
     exact .inr ⟨b,cs,c (.list es),rfl,rfl,hb,hc.fd _ _ _ _ (.gs 0 es.length cap sz es (by have:=hr.ncs;omega) rfl hr.all (by rw [List.drop_zero,hr.eq])),h1,.inl hQ⟩
 have h2:zam P f (xs.map .d) [] noGh fun r σ' _=>σ'=[]∧Q r:=h1.le fun r σ' G' ⟨a,b⟩=>by
  rcases b with b|⟨c,rfl,hc,hQ⟩
  · exact ⟨r,.refl r,a,b⟩
  · exact ⟨_,hc.nil,a,hQ⟩
 exact h2.forget fun r σ' G' ⟨a,b⟩=>⟨noGh,fun _=>.inl rfl,fun _=>.inl rfl,a,rfl,b⟩
end Go.E2
namespace Go.E2
@[go_sem] theorem z70:((0:Nat):Int)=0:=rfl
@[go_sem] theorem z71:((1:Nat):Int)=1:=rfl
section
variable {P:Program} {l:List (Nat×AV)} {L:Hp} {σ:List Hp} {G:Gh} {K:St→Prop} {ρ:Env}
theorem z8w {d:Option Nat} {f:AO} {args:List AO} {g:FuncId} {xs:List D} {Q:AV→Gh→Prop} {h:zk K}
 (hc:zam P g (xs.map .d) (L::σ) G fun r σ' G'=>σ'=L::σ∧Q r G') (ht:target (ev ρ f)=some (g,[])) (hd:zq ρ args=some xs) (hK:∀ r G',Q r G'→K (put ρ d r,L,σ,G')):wC P d f args 0 ρ L σ G h:=by
 show zcv P d f args 0 ρ L σ G K
 unfold zcv
 rw [ht]
 simp only
 rw [List.append_nil,zds hd]
 exact hc.mono fun r lv G' ⟨h1,h3⟩=>by subst h1;exact hK r G' h3
end
theorem Row.idx {sz n cap:Nat} {es cs:List D} (h:Row sz n cap es cs) {i:Nat} (hi:i<es.length):zba true sz (some cs) (i * sz)=some (.d (.agg es[i].cells)):=by
 have:=h.fits hi
 have h1:sz≤(cs.drop (i * sz)).length:=by rw [List.length_drop];omega
 simp only [zba,zb3,if_true,if_pos h1,h.get hi,Option.map_some]
theorem Row.fld {sz n cap:Nat} {es cs:List D} (h:Row sz n cap es cs) {i j:Nat} (hi:i<es.length) (hj:j<sz):zba false 1 (some cs) (i * sz+j)=(es[i].cells[j]?).map .d:=by
 simp only [zba,zb3,Bool.false_eq_true,if_false,h.get1 hi hj]
theorem zqt {pre mid post ys:List D} {n:Nat} (hp:pre.length=n) (hm:mid.length=ys.length):zbe (pre++mid++post) ys n=pre++ys++post:=by
 subst hp
 simp only [zbe]
 rw [List.append_assoc pre mid post,List.take_left,← hm,← List.append_assoc pre mid post]
 have e:pre.length+mid.length=(pre++mid).length:=by rw [List.length_append]
 rw [e,List.drop_left]
def FDL (b:Nat) (cs xs ys:List D):Prop:=ys.length=xs.length∧∀ (j:Nat) (x y:D),xs[j]?=some x→ys[j]?=some y→FD b cs x y
theorem FDL.nil {b:Nat} {cs:List D}:FDL b cs [] []:=⟨rfl,fun j x y h=>by simp at h⟩
theorem FDL.cons {b:Nat} {cs xs ys:List D} {x y:D} (h:FD b cs x y) (hs:FDL b cs xs ys):FDL b cs (x::xs) (y::ys):=by
 refine ⟨by simp [hs.1],fun j u v a b=>?_⟩
 cases j with
 | zero=>simp at a b;subst a;subst b;exact h
 | succ j=>exact hs.2 j u v (by simpa using a) (by simpa using b)
theorem FDL.agg {b:Nat} {cs xs ys:List D} (h:FDL b cs xs ys):FD b cs (.agg xs) (.agg ys):=FD.agg xs ys h.1 h.2
theorem FDL.tup {b:Nat} {cs xs ys:List D} (h:FDL b cs xs ys):FA b cs (.tup xs) (.tup ys):=FA.tup xs ys h.1 h.2
theorem GV.inv {sz:Nat} {G:Gh} {x:D} {es:List D} (h:GV sz G x es) (hn:es≠[]):∃ b cap cs,x=.gs b 0 es.length cap∧G b=some cs∧Row sz es.length cap es cs:=by
 cases h with
 | nil=>exact absurd rfl hn
 | row b cap es cs hb hr=>exact ⟨b,cap,cs,rfl,hb,hr⟩
theorem GV.shape {sz:Nat} {G:Gh} {x:D} {es:List D} (h:GV sz G x es):x=.nilS∨∃ b n cap,x=.gs b 0 n cap:=by
 cases h with
 | nil=>exact .inl rfl
 | row b cap es cs hb hr=>exact .inr ⟨_,_,_,rfl⟩
theorem GV.mk {sz n cap b:Nat} {G:Gh} {es cs:List D} (hb:G b=some cs) (h:Row sz n cap es cs):GV sz G (.gs b 0 n cap) es:=by
 have:=h.len
 subst this
 exact .row b cap es cs hb h
theorem zs4 (k:Nat) (z:List D):rep k z=flat (List.replicate k (.agg z)):=by
 induction k with
 | zero=>rfl
 | succ k ih=>simp only [List.replicate_succ,zw,← ih,D.cells];simp [rep,List.replicate_succ]
theorem Row.viewT {G:Gh} {sz n cap b:Nat} {es cs:List D} (h:Row sz n cap es cs) (hb:G b=some cs) {i c:Nat} (hi:i≤n):zbc G sz (.gs b (i * sz) (n - i) c)=some (n - i,flat (es.drop i)):=by
 have hn:=h.ncs
 have h1:i * sz+(n - i) * sz=n * sz:=by rw [← Nat.add_mul];congr 1;omega
 have h0:i * sz+(n - i) * sz≤cs.length:=by omega
 simp only [zbc,hb,h0,if_true]
 congr 2
 rw [zdq i h.all,← h.eq,List.drop_take]
 congr 1
 omega
end Go.E2
namespace Go.E2
attribute [go_sem] List.length_take List.length_drop
def wGd (o:Option (AV×Gh)) {k:AV→Gh→Prop} (_:zk k):Prop:=∃ v G',o=some (v,G')∧k v G'
@[go_sem] theorem z34 (v:AV) (G':Gh) {k:AV→Gh→Prop} (h:zk k):wGd (some (v,G')) h=k v G':=by
  simp only [wGd,Option.some.injEq,Prod.mk.injEq,eq_iff_iff]
  exact ⟨fun ⟨_,_,⟨a,b⟩,c⟩=>by subst a;subst b;exact c,fun c=>⟨_,_,⟨rfl,rfl⟩,c⟩⟩
theorem zjv {o:Option (AV×Gh)} {v:AV} {G':Gh} {k:AV→Gh→Prop} {h:zk k} (ho:o=some (v,G')) (hk:k v G'):wGd o h:=⟨v,G',ho,hk⟩
def wGn (k:GN) (vs:List D) (G:Gh) {R:AV→Gh→Prop} (_:zk R):Prop:=gnW k vs G R
section
variable {P:Program} {os:List AI} {l:List (Nat×AV)} {L:Hp} {σ:List Hp} {G:Gh} {K:St→Prop}
@[go_sem ↓] theorem z57 {d:Option Nat} {k:GD} {args:List AO}:z2 P (⟨d,.gd k args,none⟩::os) (E l) L σ G K=wB (zq (E l) args) (zk.mk (a:=fun vs=>wGd (gdD k vs G) (zk.mk (a:=fun v G'=>z2 P os (put (E l) d v) L σ G' K)))):=by
  rw [zdk (fun _=>rfl)]
  simp only [zh,wB,wGd,eq_iff_iff]
  cases zq (E l) args with
  | none=>simp
  | some vs =>
   simp only [Option.map_eq_some_iff,Option.some.injEq,exists_eq_left']
   constructor
   · rintro ⟨st,⟨⟨v,G'⟩,hv,rfl⟩,hk⟩;exact ⟨v,G',hv,hk⟩
   · rintro ⟨v,G',hv,hk⟩;exact ⟨_,⟨(v,G'),hv,rfl⟩,hk⟩
@[go_sem ↓] theorem z58 {d:Option Nat} {k:GN} {args:List AO}:z2 P (⟨d,.gn k args,none⟩::os) (E l) L σ G K=wB (zq (E l) args) (zk.mk (a:=fun vs=>wGn k vs G (zk.mk (a:=fun v G'=>z2 P os (put (E l) d v) L σ G' K)))):=by
  simp only [z2,z7,zai,zbw,wB,wGn,eq_iff_iff]
  cases zq (E l) args with
  | none=>simp
  | some vs=>simp
end
section
variable {G:Gh} {R:AV→Gh→Prop} {h:zk R}
@[go_sem] theorem z01 (z:List D):wGn (.alloc z) [] G h=zwm (zk.mk (a:=fun b=>R (.d (.gp b 0)) (G.set b (some z)))) G:=rfl
@[go_sem] theorem z59 (n:Nat) (x:D):wGn (.box n) [x] G h=wT (za n x) (zk.mk (a:=wL x.cells (zk.mk (a:=fun cs=>zwm (zk.mk (a:=fun b=>R (.d (.gp b 0)) (G.set b (some cs)))) G)))):=rfl
def z02 {k:Nat→Prop} (_:zk k) (G:Gh):Prop:=∀ b,G.m b=none→k b
theorem znx {k:Nat→Prop} {h:zk k} {G:Gh} (hk:∀ b,G.m b=none→k b):z02 h G:=hk
@[go_sem] theorem z6a:wGn .mkM [] G h=z02 (zk.mk (a:=fun r=>R (.d (.mref r)) (G.setM r (some (.map [] 0))))) G:=rfl
@[go_sem] theorem z35 (sz by_:Nat) (z:List D) (k k':IntKind) (n c:Int):wGn (.mkSl sz by_ z) [.int k n,.int k' c] G h=wP (0≤n∧n≤c∧c.toNat * by_≤mostBytes) (zk.mk (a:=zwm (zk.mk (a:=fun b=>R (.d (.gs b 0 n.toNat c.toNat)) (G.set b (some (rep c.toNat z))))) G)):=by
  simp only [wGn,gnW,wP,zwm,and_assoc]
@[go_sem] theorem z6b (f:FuncId) (ds:List D):gdD (.clo f) ds G=if ds.all D.one=true then some (.d (.clo f ds),G) else none:=by simp only [gdD]
@[go_sem] theorem z03 (neg:Bool):gdD (.pnil 0 neg) [.nilP] G=some (.d (.bool (!neg)),G):=rfl
@[go_sem] theorem zyw (neg:Bool) (b o:Nat):gdD (.pnil 0 neg) [.gp b o] G=some (.d (.bool neg),G):=rfl
@[go_sem] theorem z04 (neg:Bool):gdD (.pnil 1 neg) [.nilM] G=some (.d (.bool (!neg)),G):=rfl
@[go_sem] theorem zyx (neg:Bool) (r:Nat):gdD (.pnil 1 neg) [.mref r] G=some (.d (.bool neg),G):=rfl
@[go_sem] theorem z05 (neg:Bool):gdD (.pnil 2 neg) [.nilF] G=some (.d (.bool (!neg)),G):=rfl
@[go_sem] theorem zyy (neg:Bool) (f:FuncId):gdD (.pnil 2 neg) [.fn f] G=some (.d (.bool neg),G):=rfl
@[go_sem] theorem zyz (neg:Bool) (f:FuncId) (ds:List D):gdD (.pnil 2 neg) [.clo f ds] G=some (.d (.bool neg),G):=rfl
@[go_sem] theorem z36 (sz:Nat) (z:List D):gdD (.clr sz z) [.nilS] G=some (.tup [],G):=rfl
theorem zqu {x:D} {n:Nat} {cs:List D} {s:List UInt8} (hv:zbc G 1 x=some (n,cs)) (hs:zbn cs=some s):gdD .b2s [x] G=some (.d (.str s),G):=by
 simp only [gdD,hv,hs,Option.map_some]
end
@[go_sem] theorem zwn:zbn []=some []:=rfl
@[go_sem] theorem zu4 (n:Int) (xs:List D):zbn (.int .u8 n::xs)=(zbn xs).map fun l=>UInt8.ofNat n.toNat::l:=by simp only [zbn];cases zbn xs<;>rfl
@[go_sem] theorem vB2s_c (n:Int) (xs:List D):z0l (some (.list (.int .u8 n::xs)))=(zbn (.int .u8 n::xs)).map fun l=>.d (.str l):=rfl
@[go_sem] theorem zy0 (f:FuncId) (ds:List D):target (.d (.clo f ds))=some (f,ds.map .d):=rfl
attribute [go_sem] Gh.set_c Gh.set_m Gh.setM_c Gh.setM_m
@[go_sem,simp] theorem zim {α:Type} (f:Nat→α) (i:Nat) (v:α):upd f i v i=v:=by simp [upd]
theorem zdl {α:Type} {f:Nat→α} {i j:Nat} {v:α} (h:j≠i):upd f i v j=f j:=by simp [upd,h]
section
variable {P:Program} {κ:zbd→St→Prop} {ρ:Env} {L:Hp} {σ:List Hp} {G:Gh} {K:St→Prop}
theorem z6c {d:Option Nat} {f:AO} {args:List AO} {g:FuncId} {xs cs:List D} {Q:AV→Gh→Prop} {h:zk K}
 (hc:zam P g ((xs++cs).map .d) (L::σ) G fun r σ' G'=>σ'=L::σ∧Q r G') (ht:target (ev ρ f)=some (g,cs.map .d)) (hd:zq ρ args=some xs) (hK:∀ r G',Q r G'→K (put ρ d r,L,σ,G')):wC P d f args 0 ρ L σ G h:=by
 show zcv P d f args 0 ρ L σ G K
 unfold zcv
 rw [ht]
 simp only [if_true]
 have e:(args.map (ev ρ)++cs.map AV.d).map sh=(xs++cs).map AV.d:=by
  rw [List.map_append,zds hd,List.map_append,List.map_map];rfl
 rw [e]
 exact hc.mono fun r lv G' ⟨h1,h3⟩=>by subst h1;exact hK r G' h3
theorem z37 {d:Option Nat} {f:AO} {args:List AO} {l:Nat} {xs:List D} {Q:AV→Gh→Prop} {h:zk K}
 (hc:zia P l xs (L::σ) G fun r σ' G'=>σ'=L::σ∧Q r G') (hf:ev ρ f=.d (.yld l)) (hd:zq ρ args=some xs) (hK:∀ r G',Q r G'→K (put ρ d r,L,σ,G')):wC P d f args 0 ρ L σ G h:=by
 show zcv P d f args 0 ρ L σ G K
 unfold zcv
 rw [hf]
 simp only [target,zvp,hd,if_true]
 exact hc.mono fun r lv G' ⟨h1,h3⟩=>by subst h1;exact hK r G' h3
theorem W.rangeF {h:zk κ} {f:AO} {ps:List Nat} {c1 c2:ACode} {g:FuncId} {caps:List D} (hcd:zha P g) (ht:target (ev ρ f)=some (g,caps.map .d))
 (hx:∀ l,G.m l=none→zam P g ((.yld l::caps).map .d) (L::σ) (G.setM l (some (.loop P ρ ps c1 c2))) fun _ lv G'=>lv=L::σ ∧
   ((G'.m l=some (.loop P ρ ps c1 c2)∧κ .normal (ρ,L,σ,G'.setM l none))∨∃ e,G'.m l=some (.done e)∧e≠.normal∧κ e (ρ,L,σ,G'.setM l none))):W P (.rangeF f ps c1 c2) h (ρ,L,σ,G):=by
 refine SW.rangeF hcd ht fun l hl=>?_
 have e:(caps.map AV.d).map sh=caps.map AV.d:=by rw [List.map_map];rfl
 rw [e]
 exact (hx l hl).mono fun r lv G' ⟨h1,h2⟩=>⟨h1,h2.imp (fun ⟨a,b⟩=>⟨_,a,b⟩) id⟩
theorem zgt (hm:P.follows .mixedOrders=true) {l:Nat} {l0:List (Nat×AV)} {ps:List Nat} {c1 c2:ACode} {vs:List D} {Q:AV→List Hp→Gh→Prop} (hl:G.m l=some (.loop P (E l0) ps c1 c2)) (hlen:vs.length=ps.length) {l1:List (Nat×AV)}
 (hl1:∀ i,VLe (zc8 (zcq (E l0)) ps vs i) (E l1 i))
 (h:W P c1 (zk.mk (a:=zbd.then (fun st'=>W P c2 (zk.mk (a:=z4c P l (E l0) ps c1 c2 Q)) st') fun _ _=>False)) (E l1,HB [],σ,G.setM l none)):zia P l vs σ G Q :=
 zmo hm hl hlen (SW.weaken (st':=(E l1,HB [],σ,G.setM l none)) ⟨hl1,fun _=>BLe.refl _,rfl,GLe.refl _⟩ h)
theorem zgu (l:List (Nat×AV)) (l':List (Nat×D)) (h:∀ p∈l',E l p.1=.d p.2):∀ i,VLe (zcq (E l) i) (E (l'.map fun p=>(p.1,.d p.2)) i):=by
 intro i
 induction l' with
 | nil=>exact .undef _
 | cons p l' ih =>
  obtain ⟨j,v⟩:=p
  simp only [List.map_cons,E]
  split
  · rename_i e
    subst e
    have:=h _ List.mem_cons_self
    simp only at this
    simp only [zcq,this,AV.data]
    exact .refl _
  · exact ih fun q hq=>h q (List.mem_cons_of_mem _ hq)
theorem zgv (l:List (Nat×AV)) (l':List (Nat×D)) (p:Nat) (x:D) (h:∀ p∈l',E l p.1=.d p.2):∀ i,VLe (zc8 (zcq (E l)) [p] [x] i) (E ((p,.d x)::l'.map fun p=>(p.1,.d p.2)) i):=by
 intro i
 have:=zgu l l' h i
 simp only [zc8,upd,E]
 split
 · exact .refl _
 · exact this
end
structure GTo (x x':D) (G G':Gh):Prop where
 fr:GFr x G G'
 sep:∀ b c,G b=some c→(∀ o n k,x≠.gs b o n k)→∀ o n k,x'≠.gs b o n k
 m:G'.m=G.m
theorem GTo.refl (x:D) (G:Gh):GTo x x G G:=⟨fun _ _ h _=>h,fun _ _ _ h=>h,rfl⟩
theorem zcg {sz by_:Nat} {z:List D} {x y:D} {es es2:List D} {m d:Nat} {l:List (Nat×AV)} {L:Hp} {σ:List Hp} {G:Gh} {K:St→Prop} {h:zk K} (hx:GV sz G x es) (hv:zbc G sz y=some (m,flat es2)) (hm:es2.length=m) (ha:es2.all (za sz)=true) (hz:z.length=sz) (hb:(es.length+m) * by_≤mostBytes)
 (hK:∀ x' G',GV sz G' x' (es++es2)→GTo x x' G G'→K (E ((d,.d x')::l),L,σ,G')):z0p (some d) sz by_ z x y (E l) L σ G h:=by
 refine zqr hv ?_
 have fr:∀ {b' cs' o n k},G b'=none→GTo x (.gs b' o n k) G (G.set b' (some cs')):=by
  intro b' cs' o n k hb'
  refine ⟨?_,?_,rfl⟩
  · intro b c hbc _
    rw [Gh.set_c];unfold upd;split
    · rename_i e;subst e;rw [hb'] at hbc;cases hbc
    · exact hbc
  · rintro b c hbc _ o' n' k' e
    cases e
    rw [hb'] at hbc;cases hbc
 cases hx with
 | nil =>
  refine zs2 hz hm ha (by simpa using hb) (fun h0=>?_) (fun h0 b cap cs hb' hr=>?_)
  · have e:es2=[]:=List.eq_nil_of_length_eq_zero (by omega)
    subst e
    exact hK _ _ .nil (GTo.refl _ _)
  · have h1:=GV.row (sz:=sz) (G:=G.set b (some cs)) b cap es2 cs (by simp [upd]) (by rw [hm];exact hr)
    rw [hm] at h1
    exact hK _ _ h1 (fr hb')
 | row b cap es cs hbb hr =>
  have el:(es++es2).length=es.length+m:=by simp [hm]
  refine zs3 hbb hr hz hm ha hb (fun cs' hc hr'=>?_) (fun b' cap' cs' hc hb' hr'=>?_)
  · have h1:=GV.row (sz:=sz) (G:=G.set b (some cs')) b cap (es++es2) cs' (by simp [upd]) (by rw [el];exact hr')
    rw [el] at h1
    refine hK _ _ h1 ⟨fun b2 c2 h2 hne=>?_,fun b2 c2 h2 hne o n k e=>?_,rfl⟩
    · rw [Gh.set_c];unfold upd;split
      · rename_i e;subst e;exact absurd rfl (hne _ _ _)
      · exact h2
    · cases e;exact hne _ _ _ rfl
  · have h1:=GV.row (sz:=sz) (G:=G.set b' (some cs')) b' cap' (es++es2) cs' (by simp [upd]) (by rw [el];exact hr')
    rw [el] at h1
    exact hK _ _ h1 (fr hb')
theorem GV.set {sz:Nat} {G:Gh} {x:D} {es:List D} (h:GV sz G x es) {b:Nat} {v:Option (List D)} (hne:∀ o n k,x≠.gs b o n k):GV sz (G.set b v) x es:=by
 cases h with
 | nil=>exact .nil
 | row b2 cap es cs hb hr =>
  refine .row b2 cap es cs ?_ hr
  rw [Gh.set_c,zdl (by rintro rfl;exact hne _ _ _ rfl)];exact hb
theorem GV.setM {sz:Nat} {G:Gh} {x:D} {es:List D} (h:GV sz G x es) {b:Nat} {v:Option MO}:GV sz (G.setM b v) x es:=by
 cases h with
 | nil=>exact .nil
 | row b2 cap es cs hb hr=>exact .row b2 cap es cs hb hr
theorem GV.of {sz:Nat} {G G':Gh} {x:D} {es:List D} (h:GV sz G x es) (hg:∀ b c o n k,x=.gs b o n k→G b=some c→G' b=some c):GV sz G' x es:=by
 cases h with
 | nil=>exact .nil
 | row b2 cap es cs hb hr=>exact .row b2 cap es cs (hg _ _ _ _ _ rfl hb) hr
def zqv (h h':List (Nat×Blk)):Prop:=∀ s,BLe (HB h s) (HB h' s)
theorem zqv.refl (h:List (Nat×Blk)):zqv h h:=fun _=>BLe.refl _
theorem zqv.same {h h':List (Nat×Blk)} (i:Nat) (b:Blk) (hh:zqv h h'):zqv ((i,b)::h) ((i,b)::h'):=fun s=>by
 simp only [HB];split
 · exact BLe.refl _
 · exact hh s
theorem zqv.box {h h':List (Nat×Blk)} (i g:Nat) {cs cs':List D} (hc:zga cs cs') (hh:zqv h h'):zqv ((i,⟨g,some cs⟩)::h) ((i,⟨g,some cs'⟩)::h'):=fun s=>by
 simp only [HB];split
 · exact ⟨rfl,.inr ⟨cs,cs',rfl,rfl,hc⟩⟩
 · exact hh s
theorem zqv.pad {h h':List (Nat×Blk)} (hh:zqv h h') (ss:List Nat) (hs:(ss.all fun s=>!(h'.map (·.1)).contains s)=true):zqv h (h'++ss.map fun s=>(s,⟨0,none⟩)):=fun s=>by
 rw [zhg h' ss hs];exact hh s
theorem zcc {P:Program} {gs:List Nat} {f:FuncId} {af:AFunc} (h:zi P gs f=some af):zha P f:=by
 obtain ⟨fn,c,hfn,hb,hng,_⟩:=zib h
 exact ⟨fn,c,hfn,hb,hng⟩
end Go.E2
