/-
 Slices that grow in a field: nil,or a row of a block;and how a result that holds one becomes plain data.
 Conditions: none;definitions and laws.
-/
import Derived.Test.YtpplfpnjfjnkdaaGreatDoorEN5
namespace Go.E2
def zvx:AV→AV
 | .d x=>.d (norm x)
 | .own _ es=>.d (norm (.list es))
 | .tup xs=>.tup (zij xs)
 | v=>v
theorem zm4.norm (xs:List D):zm4 xs (zij xs):=by
 rw [zfl]
 refine ⟨by simp,fun j x y a b=>?_⟩
 rw [ylhQ,a] at b
 cases b
 exact .inr rfl
theorem RLe.norm (r:AV):RLe r (zvx r):=by
 cases r with
 | d x=>exact .le _ _ (.inr rfl)
 | own sz es=>exact .own sz es _ (.inr rfl)
 | tup xs=>exact .tup _ _ (zm4.norm xs)
 | _=>exact .refl _
theorem Fin.n {res:List zh4} {Q:AV→Prop} {h:zp fun (r:AV) (σ':List Hp) (G':Gh)=>σ'=[]∧G'=noGh∧Q r} {ρ:Env} {L:Hp} {r:AV} (hf:fin res ρ [L] noGh=some r) (hq:Q (zvx r)):Fin res h (ρ,L,[],noGh):=.ple hf (.norm r) hq
@[go_sem] theorem normA_d (x:D):zvx (.d x)=.d (norm x):=rfl
@[go_sem] theorem z74 (sz:Nat) (es:List D):zvx (.own sz es)=.d (norm (.list es)):=rfl
@[go_sem] theorem z75 (xs:List D):zvx (.tup xs)=.tup (zij xs):=rfl
@[go_sem] theorem norm_agg (cs:List D):norm (.agg cs)=.agg (zij cs):=rfl
@[go_sem] theorem z76 (cs:List D):norm (.list cs)=.list (zij cs):=rfl
@[go_sem] theorem z77:norm .nilS=.list []:=rfl
@[go_sem] theorem z78 (b:Bool):norm (.bool b)=.bool b:=rfl
@[go_sem] theorem norm_int (k:IntKind) (n:Int):norm (.int k n)=.int k n:=rfl
@[go_sem] theorem norm_str (s:List UInt8):norm (.str s)=.str s:=rfl
@[go_sem] theorem norm_gs (b o n c:Nat):norm (.gs b o n c)=.gs b o n c:=rfl
@[go_sem] theorem norm_gp (b o:Nat):norm (.gp b o)=.gp b o:=rfl
@[go_sem] theorem z79:norm .nilP=.nilP:=rfl
@[go_sem] theorem z8a:norm .nilF=.nilF:=rfl
@[go_sem] theorem norm_fn (f:FuncId):norm (.fn f)=.fn f:=rfl
@[go_sem] theorem z8b:zij []=[]:=rfl
@[go_sem] theorem z59 (x:D) (xs:List D):zij (x::xs)=norm x::zij xs:=rfl
inductive GV (sz:Nat) (G:Gh):D→List D→Prop
 | nil:GV sz G .nilS []
 | row (b cap:Nat) (es cs:List D) (hb:G b=some cs) (hr:Row sz es.length cap es cs):GV sz G (.gs b 0 es.length cap) es
def GFr (x:D) (G G':Gh):Prop:=∀ b c,G b=some c→(∀ o n k,x≠.gs b o n k)→G' b=some c
theorem GV.all {sz:Nat} {G:Gh} {x:D} {es:List D} (h:GV sz G x es):es.all (ze sz)=true:=by
 cases h with
 | nil=>rfl
 | row b cap es cs hb hr=>exact hr.all
theorem GV.len {sz:Nat} {G:Gh} {x:D} {es:List D} (h:GV sz G x es):z3c false (some x)=some (.d (.int .i64 es.length)):=by
 cases h<;>rfl
theorem GV.view {sz:Nat} {G:Gh} {x:D} {es:List D} (h:GV sz G x es):zbn G sz x=some (es.length,flat es):=by
 cases h with
 | nil=>rfl
 | row b cap es cs hb hr=>exact hr.view0 hb
theorem GV.lend {sz:Nat} {G:Gh} {x:D} {es:List D} (h:GV sz G x es):zvg G x (.list es):=by
 cases h with
 | nil=>exact .nil
 | row b cap es cs hb hr=>exact .gs b 0 es.length cap sz cs es hb (by have:=hr.ncs;omega) rfl hr.all (by rw [List.drop_zero,hr.eq])
structure Spot (c:D→AV):Prop where
 fd:∀ (b:Nat) (cs:List D) (x y:D),FD b cs x y→FA b cs (c x) (c y)
 nil:RLe (c .nilS) (c (.list []))
end Go.E2
namespace Go.E2
@[go_sem] theorem cast_0:((0:Nat):Int)=0:=rfl
@[go_sem] theorem cast_1:((1:Nat):Int)=1:=rfl
section
variable {P:Program} {l:List (Nat×AV)} {L:Hp} {σ:List Hp} {G:Gh} {K:St→Prop} {ρ:Env}
theorem wC_g {d:Option Nat} {f:AO} {args:List AO} {g:FuncId} {xs:List D} {Q:AV→Gh→Prop} {h:zp K}
 (hc:zaz P g (xs.map .d) (L::σ) G fun r σ' G'=>σ'=L::σ∧Q r G') (ht:target (ev ρ f)=some (g,[])) (hd:z6 ρ args=some xs) (hK:∀ r G',Q r G'→K (put ρ d r,L,σ,G')):wC P d f args 0 ρ L σ G h:=by
 show zcl P d f args 0 ρ L σ G K
 unfold zcl
 rw [ht]
 simp only
 rw [ylvQ,zep hd]
 exact hc.mono fun r lv G' ⟨h1,h3⟩=>by subst h1;exact hK r G' h3
theorem zzf {d:Option Nat} {f:AO} {args:List AO} {g:FuncId} {xs:List D} {Q:AV→Gh→Prop} {h:zp K}
 (hc:zaz P g (xs.map .d) [] G fun r σ' G'=>σ'=[]∧Q r G') (ht:target (ev ρ f)=some (g,[])) (hd:z6 ρ args=some xs) (hK:∀ r G',Q r G'→K (put ρ d r,L,σ,G')):wC P d f args 2 ρ L σ G h:=by
 show zcl P d f args 2 ρ L σ G K
 unfold zcl
 rw [ht]
 simp only
 rw [if_neg (by decide),if_neg (by decide),hd]
 refine ⟨[],rfl,?_⟩
 simp only [ylvQ]
 exact hc.mono fun r lv G' ⟨h1,h3⟩=>by subst h1;exact ⟨rfl,fun h=>absurd h (by decide),hK r G' h3⟩
end
theorem Row.idx {sz n cap:Nat} {es cs:List D} (h:Row sz n cap es cs) {i:Nat} (hi:i<es.length):zae true sz (some cs) (i * sz)=some (.d (.agg es[i].cells)):=by
 have:=h.fits hi
 have h1:sz≤(cs.drop (i * sz)).length:=by rw [ylfQ];omega
 simp only [zae,zbv,if_true,if_pos h1,h.get hi,Option.map_some]
theorem Row.fld {sz n cap:Nat} {es cs:List D} (h:Row sz n cap es cs) {i j:Nat} (hi:i<es.length) (hj:j<sz):zae false 1 (some cs) (i * sz+j)=(es[i].cells[j]?).map .d:=by
 simp only [zae,zbv,Bool.false_eq_true,if_false,h.get1 hi hj]
theorem zmw {pre mid post ys:List D} {n:Nat} (hp:pre.length=n) (hm:mid.length=ys.length):zau (pre++mid++post) ys n=pre++ys++post:=by
 subst hp
 simp only [zau]
 rw [yk5Q pre mid post,List.take_left,← hm,← yk5Q pre mid post]
 have e:pre.length+mid.length=(pre++mid).length:=by rw [yk2Q]
 rw [e,List.drop_left]
theorem Row.setF {sz n cap:Nat} {es cs:List D} (h:Row sz n cap es cs) {i j:Nat} (hi:i<es.length) (hj:j<sz) {v:D} (hv:v.one=true):Row sz n cap (es.set i (.agg (es[i].cells.set j v))) (zau cs [v] (i * sz+j)):=by
 have hok:ze sz es[i]=true:=(List.all_eq_true.1 h.all) _ (List.getElem_mem hi)
 simp only [ze,yk9Q,beq_iff_eq] at hok
 obtain ⟨hlen,hone⟩:=hok
 have hx:ze sz (.agg (es[i].cells.set j v))=true:=by
  simp only [ze,D.cells,yk9Q,beq_iff_eq,List.length_set]
  refine ⟨hlen,?_⟩
  rw [ylbQ] at hone ⊢
  intro y hy
  rcases List.mem_or_eq_of_mem_set hy with h1|h1
  · exact hone y h1
  · subst h1;exact hv
 have h2:=h.set hi hx
 have hfit:=h.fits hi
 have hg:=h.get hi
 have hcs:cs=cs.take (i * sz)++es[i].cells++cs.drop (i * sz+sz):=by
  rw [← hg,← List.drop_drop,yk5Q,List.take_append_drop,List.take_append_drop]
 have hpl:(cs.take (i * sz)).length=i * sz:=by rw [yk4Q];omega
 have e1:zau cs (D.agg (es[i].cells.set j v)).cells (i * sz)=cs.take (i * sz)++es[i].cells.set j v++cs.drop (i * sz+sz):=by
  conv=>lhs;rw [hcs]
  exact zmw hpl (by simp [D.cells])
 have hjl:j<es[i].cells.length:=by rw [hlen];exact hj
 have hmid:es[i].cells=es[i].cells.take j++[es[i].cells[j]]++es[i].cells.drop (j+1):=by
  rw [yk5Q,List.singleton_append,← List.drop_eq_getElem_cons hjl,List.take_append_drop]
 have e2:zau cs [v] (i * sz+j)=cs.take (i * sz)++es[i].cells.set j v++cs.drop (i * sz+sz):=by
  have h3:cs=(cs.take (i * sz)++es[i].cells.take j)++[es[i].cells[j]]++(es[i].cells.drop (j+1)++cs.drop (i * sz+sz)):=by
   conv=>lhs;rw [hcs,hmid]
   simp only [yk5Q]
  have h4:(cs.take (i * sz)++es[i].cells.take j).length=i * sz+j:=by rw [yk2Q,hpl,yk4Q,Nat.min_eq_left (by omega)]
  conv=>lhs;rw [h3]
  rw [zmw (mid:=[es[i].cells[j]]) (ys:=[v]) h4 rfl,List.set_eq_take_append_cons_drop,if_pos hjl]
  simp only [yk5Q,List.cons_append,List.nil_append]
 rw [e2,← e1]
 exact h2
theorem GV.inv {sz:Nat} {G:Gh} {x:D} {es:List D} (h:GV sz G x es) (hn:es≠[]):∃ b cap cs,x=.gs b 0 es.length cap∧G b=some cs∧Row sz es.length cap es cs:=by
 cases h with
 | nil=>exact absurd rfl hn
 | row b cap es cs hb hr=>exact ⟨b,cap,cs,rfl,hb,hr⟩
theorem GV.shape {sz:Nat} {G:Gh} {x:D} {es:List D} (h:GV sz G x es):x=.nilS∨∃ b n cap,x=.gs b 0 n cap:=by
 cases h with
 | nil=>exact .inl rfl
 | row b cap es cs hb hr=>exact .inr ⟨_,_,_,rfl⟩
theorem GV.mk {sz n cap b:Nat} {G:Gh} {es cs:List D} (hb:G b=some cs) (h:Row sz n cap es cs):GV sz G (.gs b 0 n cap) es:=by
 have:=h.len
 subst this
 exact .row b cap es cs hb h
theorem zrw (k:Nat) (z:List D):rep k z=flat (List.replicate k (.agg z)):=by
 induction k with
 | zero=>rfl
 | succ k ih=>simp only [List.replicate_succ,zan,← ih,D.cells];simp [rep,List.replicate_succ]
theorem Row.copyv {sz n cap:Nat} {es cs ys:List D} (h:Row sz n cap es cs) {i m len:Nat} (hy:ys.all (ze sz)=true) (hm:ys.length=m) (hi:i+m≤n) (hl:m≤len):Row sz n cap (es.take i++ys++es.drop (i+m)) (zau cs ((flat ys).take (min len m * sz)) (i * sz)):=by
 subst hm
 have e:(flat ys).take (min len ys.length * sz)=flat ys:=yk1Q (by rw [zy hy,Nat.min_eq_right hl];exact Nat.le_refl _)
 rw [e]
 exact h.copy hy hi
end Go.E2
namespace Go.E2
attribute [go_sem] yk4Q ylfQ
def wGd (o:Option (AV×Gh)) {k:AV→Gh→Prop} (_:zp k):Prop:=∃ v G',o=some (v,G')∧k v G'
@[go_sem] theorem wGd_some (v:AV) (G':Gh) {k:AV→Gh→Prop} (h:zp k):wGd (some (v,G')) h=k v G':=by
  simp only [wGd,Option.some.injEq,Prod.mk.injEq,eq_iff_iff]
  exact ⟨fun ⟨_,_,⟨a,b⟩,c⟩=>by subst a;subst b;exact c,fun c=>⟨_,_,⟨rfl,rfl⟩,c⟩⟩
theorem zrx {o:Option (AV×Gh)} {v:AV} {G':Gh} {k:AV→Gh→Prop} {h:zp k} (ho:o=some (v,G')) (hk:k v G'):wGd o h:=⟨v,G',ho,hk⟩
def wGn (k:GN) (vs:List D) (G:Gh) {R:AV→Gh→Prop} (_:zp R):Prop:=gnW k vs G R
section
variable {P:Program} {os:List AI} {l:List (Nat×AV)} {L:Hp} {σ:List Hp} {G:Gh} {K:St→Prop}
@[go_sem ↓] theorem regW_gd {d:Option Nat} {k:GD} {args:List AO}:zaw P (⟨d,.gd k args,none⟩::os) (E l) L σ G K=wB (z6 (E l) args) (zp.mk (a:=fun vs=>wGd (gdD k vs G) (zp.mk (a:=fun v G'=>zaw P os (put (E l) d v) L σ G' K)))):=by
  rw [zej (fun _=>rfl)]
  simp only [zk,wB,wGd,eq_iff_iff]
  cases z6 (E l) args with
  | none=>simp
  | some vs =>
   simp only [yk8Q,Option.some.injEq,exists_eq_left']
   constructor
   · rintro ⟨st,⟨⟨v,G'⟩,hv,rfl⟩,hk⟩;exact ⟨v,G',hv,hk⟩
   · rintro ⟨v,G',hv,hk⟩;exact ⟨_,⟨(v,G'),hv,rfl⟩,hk⟩
@[go_sem ↓] theorem regW_gn {d:Option Nat} {k:GN} {args:List AO}:zaw P (⟨d,.gn k args,none⟩::os) (E l) L σ G K=wB (z6 (E l) args) (zp.mk (a:=fun vs=>wGn k vs G (zp.mk (a:=fun v G'=>zaw P os (put (E l) d v) L σ G' K)))):=by
  simp only [zaw,zaj,za5,zci,wB,wGn,eq_iff_iff]
  cases z6 (E l) args with
  | none=>simp
  | some vs=>simp
end
section
variable {G:Gh} {R:AV→Gh→Prop} {h:zp R}
@[go_sem] theorem z8c (z:List D):wGn (.alloc z) [] G h=z3i (zp.mk (a:=fun b=>R (.d (.gp b 0)) (G.set b (some z)))) G:=rfl
@[go_sem] theorem wGn_box (n:Nat) (x:D):wGn (.box n) [x] G h=wT (ze n x) (zp.mk (a:=wL x.cells (zp.mk (a:=fun cs=>z3i (zp.mk (a:=fun b=>R (.d (.gp b 0)) (G.set b (some cs)))) G)))):=rfl
def z8e {k:Nat→Prop} (_:zp k) (G:Gh):Prop:=∀ b,G.m b=none→k b
theorem zzg {k:Nat→Prop} {h:zp k} {G:Gh} (hk:∀ b,G.m b=none→k b):z8e h G:=hk
@[go_sem] theorem wGn_mkM:wGn .mkM [] G h=z8e (zp.mk (a:=fun r=>R (.d (.mref r)) (G.setM r (some (.map [] 0))))) G:=rfl
@[go_sem] theorem wGn_mkSl (sz by_:Nat) (z:List D) (k k':IntKind) (n c:Int):wGn (.mkSl sz by_ z) [.int k n,.int k' c] G h=wP (0≤n∧n≤c∧c.toNat * by_≤mostBytes) (zp.mk (a:=z3i (zp.mk (a:=fun b=>R (.d (.gs b 0 n.toNat c.toNat)) (G.set b (some (rep c.toNat z))))) G)):=by
  simp only [wGn,gnW,wP,z3i,and_assoc]
@[go_sem] theorem gdD_clo (f:FuncId) (ds:List D):gdD (.clo f) ds G=if ds.all D.one=true then some (.d (.clo f ds),G) else none:=by simp only [gdD]
@[go_sem] theorem z8f (neg:Bool):gdD (.pnil 0 neg) [.nilP] G=some (.d (.bool (!neg)),G):=rfl
@[go_sem] theorem z6a (neg:Bool) (b o:Nat):gdD (.pnil 0 neg) [.gp b o] G=some (.d (.bool neg),G):=rfl
@[go_sem] theorem z8g (neg:Bool):gdD (.pnil 1 neg) [.nilM] G=some (.d (.bool (!neg)),G):=rfl
@[go_sem] theorem z6b (neg:Bool) (r:Nat):gdD (.pnil 1 neg) [.mref r] G=some (.d (.bool neg),G):=rfl
@[go_sem] theorem z8h (neg:Bool):gdD (.pnil 2 neg) [.nilF] G=some (.d (.bool (!neg)),G):=rfl
@[go_sem] theorem z6c (neg:Bool) (f:FuncId):gdD (.pnil 2 neg) [.fn f] G=some (.d (.bool neg),G):=rfl
@[go_sem] theorem z6d (neg:Bool) (f:FuncId) (ds:List D):gdD (.pnil 2 neg) [.clo f ds] G=some (.d (.bool neg),G):=rfl
@[go_sem] theorem gdD_clr0 (sz:Nat) (z:List D):gdD (.clr sz z) [.nilS] G=some (.tup [],G):=rfl
theorem zmx {x:D} {n:Nat} {cs:List D} {s:List UInt8} (hv:zbn G 1 x=some (n,cs)) (hs:zb5 cs=some s):gdD .b2s [x] G=some (.d (.str s),G):=by
 simp only [gdD,hv,hs,Option.map_some]
end
@[go_sem] theorem z3j:zb5 []=some []:=rfl
@[go_sem] theorem z1m (n:Int) (xs:List D):zb5 (.int .u8 n::xs)=(zb5 xs).map fun l=>UInt8.ofNat n.toNat::l:=by simp only [zb5];cases zb5 xs<;>rfl
@[go_sem] theorem vB2s_c (n:Int) (xs:List D):z7y (some (.list (.int .u8 n::xs)))=(zb5 (.int .u8 n::xs)).map fun l=>.d (.str l):=rfl
@[go_sem] theorem z6e (f:FuncId) (ds:List D):target (.d (.clo f ds))=some (f,ds.map .d):=rfl
attribute [go_sem] Gh.set_c Gh.set_m Gh.setM_c Gh.setM_m
@[go_sem,simp] theorem zbp {α:Type} (f:Nat→α) (i:Nat) (v:α):upd f i v i=v:=by simp [upd]
theorem zcm {α:Type} {f:Nat→α} {i j:Nat} {v:α} (h:j≠i):upd f i v j=f j:=by simp [upd,h]
section
variable {P:Program} {κ:zby→St→Prop} {ρ:Env} {L:Hp} {σ:List Hp} {G:Gh} {K:St→Prop}
theorem wC_gc {d:Option Nat} {f:AO} {args:List AO} {g:FuncId} {xs cs:List D} {Q:AV→Gh→Prop} {h:zp K}
 (hc:zaz P g ((xs++cs).map .d) (L::σ) G fun r σ' G'=>σ'=L::σ∧Q r G') (ht:target (ev ρ f)=some (g,cs.map .d)) (hd:z6 ρ args=some xs) (hK:∀ r G',Q r G'→K (put ρ d r,L,σ,G')):wC P d f args 0 ρ L σ G h:=by
 show zcl P d f args 0 ρ L σ G K
 unfold zcl
 rw [ht]
 simp only [if_true]
 have e:(args.map (ev ρ)++cs.map AV.d).map sh=(xs++cs).map AV.d:=by
  rw [yk6Q,zep hd,yk6Q,List.map_map];rfl
 rw [e]
 exact hc.mono fun r lv G' ⟨h1,h3⟩=>by subst h1;exact hK r G' h3
theorem zzh {d:Option Nat} {f:AO} {args:List AO} {g:FuncId} {xs cs:List D} {q:Nat} {Q:AV→Gh→Prop} {h:zp K}
 (hc:∀ σ,zaz P g ((xs++cs).map .d) σ G fun r σ' G'=>σ'=σ∧Q r G') (hx:∀ r G',Q r G'→zez G G') (ht:target (ev ρ f)=some (g,cs.map .d)) (hd:z6 ρ args=some xs) (hK:∀ r G',Q r G'→K (put ρ d r,L,σ,G')):wC P d f args q ρ L σ G h:=by
 show zcl P d f args q ρ L σ G K
 unfold zcl
 rw [ht]
 have e:(args.map (ev ρ)++cs.map AV.d).map sh=(xs++cs).map AV.d:=by
  rw [yk6Q,zep hd,yk6Q,List.map_map];rfl
 simp only
 split
 · rw [e]
   exact (hc _).mono fun r lv G' ⟨h1,h3⟩=>by subst h1;exact hK r G' h3
 · split
   · rw [e]
     exact (hc _).mono fun r lv G' ⟨h1,h3⟩=>by subst h1;exact ⟨rfl,fun _=>hx _ _ h3,hK r G' h3⟩
   · refine ⟨cs,rfl,?_⟩
     rw [hd]
     exact (hc _).mono fun r lv G' ⟨h1,h3⟩=>by subst h1;exact ⟨rfl,fun _=>hx _ _ h3,hK r G' h3⟩
theorem wC_y {d:Option Nat} {f:AO} {args:List AO} {l:Nat} {xs:List D} {Q:AV→Gh→Prop} {h:zp K}
 (hc:zlc P l xs (L::σ) G fun r σ' G'=>σ'=L::σ∧Q r G') (hf:ev ρ f=.d (.yld l)) (hd:z6 ρ args=some xs) (hK:∀ r G',Q r G'→K (put ρ d r,L,σ,G')):wC P d f args 0 ρ L σ G h:=by
 show zcl P d f args 0 ρ L σ G K
 unfold zcl
 rw [hf]
 simp only [target,z02,hd,if_true]
 exact hc.mono fun r lv G' ⟨h1,h3⟩=>by subst h1;exact hK r G' h3
theorem W.rangeF {h:zp κ} {f:AO} {ps:List Nat} {c1 c2:ACode} {g:FuncId} {caps:List D} (hcd:zhf P g) (ht:target (ev ρ f)=some (g,caps.map .d))
 (hx:∀ l,G.m l=none→zaz P g ((.yld l::caps).map .d) (L::σ) (G.setM l (some (.loop P ρ ps c1 c2))) fun _ lv G'=>lv=L::σ ∧
   ((G'.m l=some (.loop P ρ ps c1 c2)∧κ .normal (ρ,L,σ,G'.setM l none))∨∃ e,G'.m l=some (.done e)∧e≠.normal∧κ e (ρ,L,σ,G'.setM l none))):W P (.rangeF f ps c1 c2) h (ρ,L,σ,G):=by
 refine SW.rangeF hcd ht fun l hl=>?_
 have e:(caps.map AV.d).map sh=caps.map AV.d:=by rw [List.map_map];rfl
 rw [e]
 exact (hx l hl).mono fun r lv G' ⟨h1,h2⟩=>⟨h1,h2.imp (fun ⟨a,b⟩=>⟨_,a,b⟩) id⟩
theorem zf6 (hm:P.follows .mixedOrders=true) {l:Nat} {l0:List (Nat×AV)} {ps:List Nat} {c1 c2:ACode} {vs:List D} {Q:AV→List Hp→Gh→Prop} (hl:G.m l=some (.loop P (E l0) ps c1 c2)) (hlen:vs.length=ps.length) {l1:List (Nat×AV)}
 (hl1:∀ i,VLe (zen (zd0 (E l0)) ps vs i) (E l1 i))
 (h:W P c1 (zp.mk (a:=zby.then (fun st'=>W P c2 (zp.mk (a:=rndQ P l (E l0) ps c1 c2 Q)) st') fun _ _=>False)) (E l1,HB [],σ,G.setM l none)):zlc P l vs σ G Q :=
 zp8 hm hl hlen (SW.weaken (st':=(E l1,HB [],σ,G.setM l none)) ⟨hl1,fun _=>BLe.refl _,rfl,GLe.refl _⟩ h)
theorem zl1 (l:List (Nat×AV)) (l':List (Nat×D)) (h:∀ p∈l',E l p.1=.d p.2):∀ i,VLe (zd0 (E l) i) (E (l'.map fun p=>(p.1,.d p.2)) i):=by
 intro i
 induction l' with
 | nil=>exact .undef _
 | cons p l' ih =>
  obtain ⟨j,v⟩:=p
  simp only [List.map_cons,E]
  split
  · rename_i e
    subst e
    have:=h _ ylpQ
    simp only at this
    simp only [zd0,this,AV.data]
    exact .refl _
  · exact ih fun q hq=>h q (List.mem_cons_of_mem _ hq)
theorem zid (l:List (Nat×AV)) (l':List (Nat×D)) (p:Nat) (x:D) (h:∀ p∈l',E l p.1=.d p.2):∀ i,VLe (zen (zd0 (E l)) [p] [x] i) (E ((p,.d x)::l'.map fun p=>(p.1,.d p.2)) i):=by
 intro i
 have:=zl1 l l' h i
 simp only [zen,upd,E]
 split
 · exact .refl _
 · exact this
end
structure GTo (x x':D) (G G':Gh):Prop where
 fr:GFr x G G'
 sep:∀ b c,G b=some c→(∀ o n k,x≠.gs b o n k)→∀ o n k,x'≠.gs b o n k
 m:G'.m=G.m
theorem GTo.refl (x:D) (G:Gh):GTo x x G G:=⟨fun _ _ h _=>h,fun _ _ _ h=>h,rfl⟩
theorem zcb {sz by_:Nat} {z:List D} {x y:D} {es es2:List D} {m d:Nat} {l:List (Nat×AV)} {L:Hp} {σ:List Hp} {G:Gh} {K:St→Prop} {h:zp K} (hx:GV sz G x es) (hv:zbn G sz y=some (m,flat es2)) (hm:es2.length=m) (ha:es2.all (ze sz)=true) (hz:z.length=sz) (hb:(es.length+m) * by_≤mostBytes)
 (hK:∀ x' G',GV sz G' x' (es++es2)→GTo x x' G G'→K (E ((d,.d x')::l),L,σ,G')):z1l (some d) sz by_ z x y (E l) L σ G h:=by
 refine zvw hv ?_
 have fr:∀ {b' cs' o n k},G b'=none→GTo x (.gs b' o n k) G (G.set b' (some cs')):=by
  intro b' cs' o n k hb'
  refine ⟨?_,?_,rfl⟩
  · intro b c hbc _
    rw [Gh.set_c];unfold upd;split
    · rename_i e;subst e;rw [hb'] at hbc;cases hbc
    · exact hbc
  · rintro b c hbc _ o' n' k' e
    cases e
    rw [hb'] at hbc;cases hbc
 cases hx with
 | nil =>
  refine zzd hz hm ha (by simpa using hb) (fun h0=>?_) (fun h0 b cap cs hb' hr=>?_)
  · have e:es2=[]:=ylaQ (by omega)
    subst e
    exact hK _ _ .nil (GTo.refl _ _)
  · have h1:=GV.row (sz:=sz) (G:=G.set b (some cs)) b cap es2 cs (by simp [upd]) (by rw [hm];exact hr)
    rw [hm] at h1
    exact hK _ _ h1 (fr hb')
 | row b cap es cs hbb hr =>
  have el:(es++es2).length=es.length+m:=by simp [hm]
  refine zze hbb hr hz hm ha hb (fun cs' hc hr'=>?_) (fun b' cap' cs' hc hb' hr'=>?_)
  · have h1:=GV.row (sz:=sz) (G:=G.set b (some cs')) b cap (es++es2) cs' (by simp [upd]) (by rw [el];exact hr')
    rw [el] at h1
    refine hK _ _ h1 ⟨fun b2 c2 h2 hne=>?_,fun b2 c2 h2 hne o n k e=>?_,rfl⟩
    · rw [Gh.set_c];unfold upd;split
      · rename_i e;subst e;exact absurd rfl (hne _ _ _)
      · exact h2
    · cases e;exact hne _ _ _ rfl
  · have h1:=GV.row (sz:=sz) (G:=G.set b' (some cs')) b' cap' (es++es2) cs' (by simp [upd]) (by rw [el];exact hr')
    rw [el] at h1
    exact hK _ _ h1 (fr hb')
theorem GV.of {sz:Nat} {G G':Gh} {x:D} {es:List D} (h:GV sz G x es) (hg:∀ b c o n k,x=.gs b o n k→G b=some c→G' b=some c):GV sz G' x es:=by
 cases h with
 | nil=>exact .nil
 | row b2 cap es cs hb hr=>exact .row b2 cap es cs (hg _ _ _ _ _ rfl hb) hr
theorem zb3 {P:Program} {gs:List Nat} {f:FuncId} {af:AFunc} (h:zb P gs f=some af):zhf P f:=by
 obtain ⟨fn,c,hfn,hb,hng,_⟩:=zj1 h
 exact ⟨fn,c,hfn,hb,hng⟩
