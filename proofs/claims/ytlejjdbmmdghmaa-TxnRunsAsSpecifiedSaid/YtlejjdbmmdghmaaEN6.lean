/-
 Slices that grow in a field: nil,or a row of a block;and how a result that holds one becomes plain data.
 Conditions: none;definitions and laws.
-/
import Derived.Test.YtlejjdbmmdghmaaEN3
namespace Go.E2
def zuo:AV→AV
 | .d x=>.d (norm x)
 | .own _ es=>.d (norm (.list es))
 | .tup xs=>.tup (zh6 xs)
 | v=>v
theorem zhc.norm (xs:List D):zhc xs (zh6 xs):=by
 rw [zfj]
 refine ⟨by simp,fun j x y a b=>?_⟩
 rw [List.getElem?_map,a] at b
 cases b
 exact .inr rfl
theorem RLe.norm (r:AV):RLe r (zuo r):=by
 cases r with
 | d x=>exact .le _ _ (.inr rfl)
 | own sz es=>exact .own sz es _ (.inr rfl)
 | tup xs=>exact .tup _ _ (zhc.norm xs)
 | _=>exact .refl _
theorem Fin.nT {res:List zgl} {Q:AV→List Hp→Gh→Prop} {h:zu Q} {st:St} {r:AV} (hf:fin res st.1 (st.2.1::st.2.2.1) st.2.2.2=some r) (hq:Q (zuo r) st.2.2.1 st.2.2.2):Fin res h st:=.le hf (.norm r) hq
@[go_sem] theorem z9w (x:D):zuo (.d x)=.d (norm x):=rfl
@[go_sem] theorem z4x (sz:Nat) (es:List D):zuo (.own sz es)=.d (norm (.list es)):=rfl
@[go_sem] theorem z4y (xs:List D):zuo (.tup xs)=.tup (zh6 xs):=rfl
@[go_sem] theorem z7v (cs:List D):norm (.agg cs)=.agg (zh6 cs):=rfl
@[go_sem] theorem z4z (cs:List D):norm (.list cs)=.list (zh6 cs):=rfl
@[go_sem] theorem z40:norm .nilS=.list []:=rfl
@[go_sem] theorem z41 (b:Bool):norm (.bool b)=.bool b:=rfl
@[go_sem] theorem z7w (k:IntKind) (n:Int):norm (.int k n)=.int k n:=rfl
@[go_sem] theorem z7x (s:List UInt8):norm (.str s)=.str s:=rfl
@[go_sem] theorem z9x (b o n c:Nat):norm (.gs b o n c)=.gs b o n c:=rfl
@[go_sem] theorem z9y (b o:Nat):norm (.gp b o)=.gp b o:=rfl
@[go_sem] theorem z42:norm .nilP=.nilP:=rfl
@[go_sem] theorem z43:norm .nilF=.nilF:=rfl
@[go_sem] theorem z9z (f:FuncId):norm (.fn f)=.fn f:=rfl
@[go_sem] theorem z44:zh6 []=[]:=rfl
@[go_sem] theorem z2z (x:D) (xs:List D):zh6 (x::xs)=norm x::zh6 xs:=rfl
inductive GV (sz:Nat) (G:Gh):D→List D→Prop
 | nil:GV sz G .nilS []
 | row (b cap:Nat) (es cs:List D) (hb:G b=some cs) (hr:Row sz es.length cap es cs):GV sz G (.gs b 0 es.length cap) es
def GFr (x:D) (G G':Gh):Prop:=∀ b c,G b=some c→(∀ o n k,x≠.gs b o n k)→G' b=some c
theorem GV.len {sz:Nat} {G:Gh} {x:D} {es:List D} (h:GV sz G x es):z2y false (some x)=some (.d (.int .i64 es.length)):=by
 cases h<;>rfl
theorem GV.view {sz:Nat} {G:Gh} {x:D} {es:List D} (h:GV sz G x es):zb2 G sz x=some (es.length,zag es):=by
 cases h with
 | nil=>rfl
 | row b cap es cs hb hr=>exact hr.view0 hb
structure Spot (c:D→AV):Prop where
 fd:∀ (b:Nat) (cs:List D) (x y:D),FD b cs x y→FA b cs (c x) (c y)
 nil:RLe (c .nilS) (c (.list []))
end Go.E2
namespace Go.E2
@[go_sem] theorem cast_0:((0:Nat):Int)=0:=rfl
@[go_sem] theorem cast_1:((1:Nat):Int)=1:=rfl
section
variable {P:Program} {l:List (Nat×AV)} {L:Hp} {σ:List Hp} {G:Gh} {K:St→Prop} {ρ:Env}
end
theorem Row.idx {sz n cap:Nat} {es cs:List D} (h:Row sz n cap es cs) {i:Nat} (hi:i<es.length):zbg true sz (some cs) (i * sz)=some (.d (.agg es[i].cells)):=by
 have:=h.fits hi
 have h1:sz≤(cs.drop (i * sz)).length:=by rw [List.length_drop];omega
 simp only [zbg,zcj,if_true,if_pos h1,h.get hi,Option.map_some]
theorem Row.fld {sz n cap:Nat} {es cs:List D} (h:Row sz n cap es cs) {i j:Nat} (hi:i<es.length) (hj:j<sz):zbg false 1 (some cs) (i * sz+j)=(es[i].cells[j]?).map .d:=by
 simp only [zbg,zcj,Bool.false_eq_true,if_false,h.get1 hi hj]
theorem zup {pre mid post ys:List D} {n:Nat} (hp:pre.length=n) (hm:mid.length=ys.length):zbv (pre++mid++post) ys n=pre++ys++post:=by
 subst hp
 simp only [zbv]
 rw [List.append_assoc pre mid post,List.take_left,← hm,← List.append_assoc pre mid post]
 have e:pre.length+mid.length=(pre++mid).length:=by rw [List.length_append]
 rw [e,List.drop_left]
theorem GV.inv {sz:Nat} {G:Gh} {x:D} {es:List D} (h:GV sz G x es) (hn:es≠[]):∃ b cap cs,x=.gs b 0 es.length cap∧G b=some cs∧Row sz es.length cap es cs:=by
 cases h with
 | nil=>exact absurd rfl hn
 | row b cap es cs hb hr=>exact ⟨b,cap,cs,rfl,hb,hr⟩
theorem GV.shape {sz:Nat} {G:Gh} {x:D} {es:List D} (h:GV sz G x es):x=.nilS∨∃ b n cap,x=.gs b 0 n cap:=by
 cases h with
 | nil=>exact .inl rfl
 | row b cap es cs hb hr=>exact .inr ⟨_,_,_,rfl⟩
theorem GV.mk {sz n cap b:Nat} {G:Gh} {es cs:List D} (hb:G b=some cs) (h:Row sz n cap es cs):GV sz G (.gs b 0 n cap) es:=by
 have:=h.len
 subst this
 exact .row b cap es cs hb h
theorem zqz (k:Nat) (z:List D):rep k z=zag (List.replicate k (.agg z)):=by
 induction k with
 | zero=>rfl
 | succ k ih=>simp only [List.replicate_succ,z7,← ih,D.cells];simp [rep,List.replicate_succ]
end Go.E2
namespace Go.E2
attribute [go_sem] List.length_take List.length_drop
def wGd (o:Option (AV×Gh)) {k:AV→Gh→Prop} (_:zu k):Prop:=∃ v G',o=some (v,G')∧k v G'
@[go_sem] theorem z7y (v:AV) (G':Gh) {k:AV→Gh→Prop} (h:zu k):wGd (some (v,G')) h=k v G':=by
  simp only [wGd,Option.some.injEq,Prod.mk.injEq,eq_iff_iff]
  exact ⟨fun ⟨_,_,⟨a,b⟩,c⟩=>by subst a;subst b;exact c,fun c=>⟨_,_,⟨rfl,rfl⟩,c⟩⟩
theorem zjx {o:Option (AV×Gh)} {v:AV} {G':Gh} {k:AV→Gh→Prop} {h:zu k} (ho:o=some (v,G')) (hk:k v G'):wGd o h:=⟨v,G',ho,hk⟩
def wGn (k:GN) (vs:List D) (G:Gh) {R:AV→Gh→Prop} (_:zu R):Prop:=gnW k vs G R
section
variable {P:Program} {os:List AI} {l:List (Nat×AV)} {L:Hp} {σ:List Hp} {G:Gh} {K:St→Prop}
@[go_sem ↓] theorem z90 {d:Option Nat} {k:GD} {args:List AO}:zaq P (⟨d,.gd k args,none⟩::os) (E l) L σ G K=wB (zx (E l) args) (zu.mk (a:=fun vs=>wGd (gdD k vs G) (zu.mk (a:=fun v G'=>zaq P os (put (E l) d v) L σ G' K)))):=by
  rw [zek (fun _=>rfl)]
  simp only [zm,wB,wGd,eq_iff_iff]
  cases zx (E l) args with
  | none=>simp
  | some vs =>
   simp only [Option.map_eq_some_iff,Option.some.injEq,exists_eq_left']
   constructor
   · rintro ⟨st,⟨⟨v,G'⟩,hv,rfl⟩,hk⟩;exact ⟨v,G',hv,hk⟩
   · rintro ⟨v,G',hv,hk⟩;exact ⟨_,⟨(v,G'),hv,rfl⟩,hk⟩
@[go_sem ↓] theorem z91 {d:Option Nat} {k:GN} {args:List AO}:zaq P (⟨d,.gn k args,none⟩::os) (E l) L σ G K=wB (zx (E l) args) (zu.mk (a:=fun vs=>wGn k vs G (zu.mk (a:=fun v G'=>zaq P os (put (E l) d v) L σ G' K)))):=by
  simp only [zaq,zaf,zax,zce,wB,wGn,eq_iff_iff]
  cases zx (E l) args with
  | none=>simp
  | some vs=>simp
end
section
variable {G:Gh} {R:AV→Gh→Prop} {h:zu R}
@[go_sem] theorem z45 (z:List D):wGn (.alloc z) [] G h=z0t (zu.mk (a:=fun b=>R (.d (.gp b 0)) (G.set b (some z)))) G:=rfl
@[go_sem] theorem z92 (n:Nat) (x:D):wGn (.box n) [x] G h=wT (zb n x) (zu.mk (a:=wL x.cells (zu.mk (a:=fun cs=>z0t (zu.mk (a:=fun b=>R (.d (.gp b 0)) (G.set b (some cs)))) G)))):=rfl
def z47 {k:Nat→Prop} (_:zu k) (G:Gh):Prop:=∀ b,G.m b=none→k b
theorem zq0 {k:Nat→Prop} {h:zu k} {G:Gh} (hk:∀ b,G.m b=none→k b):z47 h G:=hk
@[go_sem] theorem z93:wGn .mkM [] G h=z47 (zu.mk (a:=fun r=>R (.d (.mref r)) (G.setM r (some (.map [] 0))))) G:=rfl
@[go_sem] theorem z7z (sz by_:Nat) (z:List D) (k k':IntKind) (n c:Int):wGn (.mkSl sz by_ z) [.int k n,.int k' c] G h=wP (0≤n∧n≤c∧c.toNat * by_≤mostBytes) (zu.mk (a:=z0t (zu.mk (a:=fun b=>R (.d (.gs b 0 n.toNat c.toNat)) (G.set b (some (rep c.toNat z))))) G)):=by
  simp only [wGn,gnW,wP,z0t,and_assoc]
@[go_sem] theorem z94 (f:FuncId) (ds:List D):gdD (.clo f) ds G=if ds.all D.one=true then some (.d (.clo f ds),G) else none:=by simp only [gdD]
@[go_sem] theorem z48 (neg:Bool):gdD (.pnil 0 neg) [.nilP] G=some (.d (.bool (!neg)),G):=rfl
@[go_sem] theorem z20 (neg:Bool) (b o:Nat):gdD (.pnil 0 neg) [.gp b o] G=some (.d (.bool neg),G):=rfl
@[go_sem] theorem z49 (neg:Bool):gdD (.pnil 1 neg) [.nilM] G=some (.d (.bool (!neg)),G):=rfl
@[go_sem] theorem z21 (neg:Bool) (r:Nat):gdD (.pnil 1 neg) [.mref r] G=some (.d (.bool neg),G):=rfl
@[go_sem] theorem z5a (neg:Bool):gdD (.pnil 2 neg) [.nilF] G=some (.d (.bool (!neg)),G):=rfl
@[go_sem] theorem z22 (neg:Bool) (f:FuncId):gdD (.pnil 2 neg) [.fn f] G=some (.d (.bool neg),G):=rfl
@[go_sem] theorem z23 (neg:Bool) (f:FuncId) (ds:List D):gdD (.pnil 2 neg) [.clo f ds] G=some (.d (.bool neg),G):=rfl
@[go_sem] theorem z70 (sz:Nat) (z:List D):gdD (.clr sz z) [.nilS] G=some (.tup [],G):=rfl
theorem z0u {x:D} {n:Nat} {cs:List D} {s:List UInt8} (hv:zb2 G 1 x=some (n,cs)) (hs:zbh cs=some s):gdD .b2s [x] G=some (.d (.str s),G):=by
 simp only [gdD,hv,hs,Option.map_some]
end
@[go_sem] theorem z0v:zbh []=some []:=rfl
@[go_sem] theorem zzl (n:Int) (xs:List D):zbh (.int .u8 n::xs)=(zbh xs).map fun l=>UInt8.ofNat n.toNat::l:=by simp only [zbh];cases zbh xs<;>rfl
@[go_sem] theorem vB2s_c (n:Int) (xs:List D):z4r (some (.list (.int .u8 n::xs)))=(zbh (.int .u8 n::xs)).map fun l=>.d (.str l):=rfl
@[go_sem] theorem z24 (f:FuncId) (ds:List D):target (.d (.clo f ds))=some (f,ds.map .d):=rfl
attribute [go_sem] Gh.set_c Gh.set_m Gh.setM_c Gh.setM_m
@[go_sem,simp] theorem zjy {α:Type} (f:Nat→α) (i:Nat) (v:α):upd f i v i=v:=by simp [upd]
theorem ze8 {α:Type} {f:Nat→α} {i j:Nat} {v:α} (h:j≠i):upd f i v j=f j:=by simp [upd,h]
section
variable {P:Program} {κ:zaz→St→Prop} {ρ:Env} {L:Hp} {σ:List Hp} {G:Gh} {K:St→Prop}
theorem z95 {d:Option Nat} {f:AO} {args:List AO} {g:FuncId} {xs cs:List D} {Q:AV→Gh→Prop} {h:zu K}
 (hc:zbb P g ((xs++cs).map .d) (L::σ) G fun r σ' G'=>σ'=L::σ∧Q r G') (ht:target (ev ρ f)=some (g,cs.map .d)) (hd:zx ρ args=some xs) (hK:∀ r G',Q r G'→K (put ρ d r,L,σ,G')):wC P d f args 0 ρ L σ G h:=by
 show zdl P d f args 0 ρ L σ G K
 unfold zdl
 rw [ht]
 simp only [if_true]
 have e:(args.map (ev ρ)++cs.map AV.d).map sh=(xs++cs).map AV.d:=by
  rw [List.map_append,zhw hd,List.map_append,List.map_map];rfl
 rw [e]
 exact hc.mono fun r lv G' ⟨h1,h3⟩=>by subst h1;exact hK r G' h3
theorem z96 {d:Option Nat} {f:AO} {args:List AO} {l:Nat} {xs:List D} {Q:AV→Gh→Prop} {h:zu K}
 (hc:zk2 P l xs (L::σ) G fun r σ' G'=>σ'=L::σ∧Q r G') (hf:ev ρ f=.d (.yld l)) (hd:zx ρ args=some xs) (hK:∀ r G',Q r G'→K (put ρ d r,L,σ,G')):wC P d f args 0 ρ L σ G h:=by
 show zdl P d f args 0 ρ L σ G K
 unfold zdl
 rw [hf]
 simp only [target,zw0,hd,if_true]
 exact hc.mono fun r lv G' ⟨h1,h3⟩=>by subst h1;exact hK r G' h3
theorem W.rangeF [DD] {h:zu κ} {f:AO} {ps:List Nat} {c1 c2:ACode} {g:FuncId} {caps:List D} (hcd:ze3 P g) (ht:target (ev ρ f)=some (g,caps.map .d))
 (hx:∀ l,G.m l=none→zbb P g ((.yld l::caps).map .d) (L::σ) (G.setM l (some (.loop P ρ ps c1 c2))) fun _ lv G'=>lv=L::σ ∧
   ((G'.m l=some (.loop P ρ ps c1 c2)∧κ .normal (ρ,L,σ,G'.setM l none))∨∃ e,G'.m l=some (.done e)∧e≠.normal∧κ e (ρ,L,σ,G'.setM l none))):W P (.rangeF f ps c1 c2) h (ρ,L,σ,G):=by
 refine SW.rangeF hcd ht fun l hl=>?_
 have e:(caps.map AV.d).map sh=caps.map AV.d:=by rw [List.map_map];rfl
 rw [e]
 exact (hx l hl).mono fun r lv G' ⟨h1,h2⟩=>⟨h1,h2.imp (fun ⟨a,b⟩=>⟨_,a,b⟩) id⟩
theorem zss (hm:P.follows .mixedOrders=true) {l:Nat} {l0:List (Nat×AV)} {ps:List Nat} {c1 c2:ACode} {vs:List D} {Q:AV→List Hp→Gh→Prop} (hl:G.m l=some (.loop P (E l0) ps c1 c2)) (hlen:vs.length=ps.length) {l1:List (Nat×AV)}
 (hl1:∀ i,VLe (ze6 (zd3 (E l0)) ps vs i) (E l1 i))
 (h:W P c1 (zu.mk (a:=zaz.then (fun st'=>W P c2 (zu.mk (a:=z77 P l (E l0) ps c1 c2 Q)) st') fun _ _=>False)) (E l1,HB [],σ,G.setM l none)):zk2 P l vs σ G Q :=
 zpc hm hl hlen (SW.weaken (st':=(E l1,HB [],σ,G.setM l none)) ⟨hl1,fun _=>BLe.refl _,rfl,GLe.refl _⟩ h)
theorem zst (l:List (Nat×AV)) (l':List (Nat×D)) (h:∀ p∈l',E l p.1=.d p.2):∀ i,VLe (zd3 (E l) i) (E (l'.map fun p=>(p.1,.d p.2)) i):=by
 intro i
 induction l' with
 | nil=>exact .undef _
 | cons p l' ih =>
  obtain ⟨j,v⟩:=p
  simp only [List.map_cons,E]
  split
  · rename_i e
    subst e
    have:=h _ List.mem_cons_self
    simp only at this
    simp only [zd3,this,AV.data]
    exact .refl _
  · exact ih fun q hq=>h q (List.mem_cons_of_mem _ hq)
end
structure GTo (x x':D) (G G':Gh):Prop where
 fr:GFr x G G'
 sep:∀ b c,G b=some c→(∀ o n k,x≠.gs b o n k)→∀ o n k,x'≠.gs b o n k
 m:G'.m=G.m
theorem GTo.refl (x:D) (G:Gh):GTo x x G G:=⟨fun _ _ h _=>h,fun _ _ _ h=>h,rfl⟩
theorem za0 {sz by_:Nat} {z:List D} {x y:D} {es es2:List D} {m d:Nat} {l:List (Nat×AV)} {L:Hp} {σ:List Hp} {G:Gh} {K:St→Prop} {h:zu K} (hx:GV sz G x es) (hv:zb2 G sz y=some (m,zag es2)) (hm:es2.length=m) (ha:es2.all (zb sz)=true) (hz:z.length=sz) (hb:(es.length+m) * by_≤mostBytes)
 (hK:∀ x' G',GV sz G' x' (es++es2)→GTo x x' G G'→K (E ((d,.d x')::l),L,σ,G')):z4v (some d) sz by_ z x y (E l) L σ G h:=by
 refine zun hv ?_
 have fr:∀ {b' cs' o n k},G b'=none→GTo x (.gs b' o n k) G (G.set b' (some cs')):=by
  intro b' cs' o n k hb'
  refine ⟨?_,?_,rfl⟩
  · intro b c hbc _
    rw [Gh.set_c];unfold upd;split
    · rename_i e;subst e;rw [hb'] at hbc;cases hbc
    · exact hbc
  · rintro b c hbc _ o' n' k' e
    cases e
    rw [hb'] at hbc;cases hbc
 cases hx with
 | nil =>
  refine zxr hz hm ha (by simpa using hb) (fun h0=>?_) (fun h0 b cap cs hb' hr=>?_)
  · have e:es2=[]:=List.eq_nil_of_length_eq_zero (by omega)
    subst e
    exact hK _ _ .nil (GTo.refl _ _)
  · have h1:=GV.row (sz:=sz) (G:=G.set b (some cs)) b cap es2 cs (by simp [upd]) (by rw [hm];exact hr)
    rw [hm] at h1
    exact hK _ _ h1 (fr hb')
 | row b cap es cs hbb hr =>
  have el:(es++es2).length=es.length+m:=by simp [hm]
  refine zxs hbb hr hz hm ha hb (fun cs' hc hr'=>?_) (fun b' cap' cs' hc hb' hr'=>?_)
  · have h1:=GV.row (sz:=sz) (G:=G.set b (some cs')) b cap (es++es2) cs' (by simp [upd]) (by rw [el];exact hr')
    rw [el] at h1
    refine hK _ _ h1 ⟨fun b2 c2 h2 hne=>?_,fun b2 c2 h2 hne o n k e=>?_,rfl⟩
    · rw [Gh.set_c];unfold upd;split
      · rename_i e;subst e;exact absurd rfl (hne _ _ _)
      · exact h2
    · cases e;exact hne _ _ _ rfl
  · have h1:=GV.row (sz:=sz) (G:=G.set b' (some cs')) b' cap' (es++es2) cs' (by simp [upd]) (by rw [el];exact hr')
    rw [el] at h1
    exact hK _ _ h1 (fr hb')
def ztk (h h':List (Nat×Blk)):Prop:=∀ s,BLe (HB h s) (HB h' s)
theorem ztk.refl (h:List (Nat×Blk)):ztk h h:=fun _=>BLe.refl _
theorem ztk.box {h h':List (Nat×Blk)} (i g:Nat) {cs cs':List D} (hc:zhc cs cs') (hh:ztk h h'):ztk ((i,⟨g,some cs⟩)::h) ((i,⟨g,some cs'⟩)::h'):=fun s=>by
 simp only [HB];split
 · exact ⟨rfl,.inr ⟨cs,cs',rfl,rfl,hc⟩⟩
 · exact hh s
theorem ztk.pad {h h':List (Nat×Blk)} (hh:ztk h h') (ss:List Nat) (hs:(ss.all fun s=>!(h'.map (·.1)).contains s)=true):ztk h (h'++ss.map fun s=>(s,⟨0,none⟩)):=fun s=>by
 rw [zcx h' ss hs];exact hh s
theorem z5b {l l':List (Nat×AV)} {h h':List (Nat×Blk)} {σ:List Hp} {G:Gh} (he:∀ p∈l',VLe (E l p.1) p.2) (hh:ztk h h'):ztm (E l,HB h,σ,G) (E l',HB h',σ,G):=⟨E_le he,hh,rfl,GLe.refl _⟩
theorem zhx {P:Program} {gs:List Nat} {f:FuncId} {af:AFunc} (h:zf P gs f=some af):ze3 P f:=by
 obtain ⟨fn,c,hfn,hb,hng,_⟩:=zgc h
 exact ⟨fn,c,hfn,hb,hng⟩
end Go.E2
