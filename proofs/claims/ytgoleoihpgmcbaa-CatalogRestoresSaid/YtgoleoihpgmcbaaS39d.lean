/-
 Layer 39 (catalog): putting in and taking out at a place.
 Conditions: none; laws with no program in sight.
-/
import Derived.Test.YtgoleoihpgmcbaaS39
namespace C39
def plc {α:Type} (p:α→Bool):List α→Nat
 | []=>0
 | y::r=>if p y=true then plc p r + 1 else 0
def bfE (x y:En):Bool:=decide (before y x)
def smE (x y:En):Bool:=decide (sameK y x)
def bfS (n:Int) (s:Sn):Bool:=decide (s.snap < n)
def smS (n:Int) (s:Sn):Bool:=decide (s.snap=n)
theorem plc_le {α:Type} (p:α→Bool):∀ l:List α,plc p l≤l.length
 | []=>Nat.le_refl _
 | y::r=>by have:=plc_le p r; rw [plc]; split<;>simp<;>omega
theorem insE_plc {x:En}:∀ {l:List En},(∀ y ∈ l,¬ sameK y x)→insE x l=l.take (plc (bfE x) l) ++ [x] ++ l.drop (plc (bfE x) l)
 | [],_=>rfl
 | y::r,h=>by
   rw [insE,plc]
   have hy:=h y (by simp)
   by_cases hb:before y x
   · have hq:bfE x y=true:=decide_eq_true hb
     rw [if_neg (before_asymm hb),if_pos hq,insE_plc fun z hz=>h z (by simp [hz])]
     simp
   · have h3:before x y:=by
      rcases before_tri y x with h1|h1|h1
      · exact (hb h1).elim
      · exact (hy h1).elim
      · exact h1
     have hq:¬ bfE x y=true:=fun h1=>hb (of_decide_eq_true h1)
     rw [if_pos h3,if_neg hq]
     simp
theorem insS_plc {x:Sn}:∀ {l:List Sn},(∀ y ∈ l,y.snap ≠ x.snap)→insS x l=l.take (plc (bfS x.snap) l) ++ [x] ++ l.drop (plc (bfS x.snap) l)
 | [],_=>rfl
 | y::r,h=>by
   rw [insS,plc]
   have hy:=h y (by simp)
   by_cases hb:y.snap < x.snap
   · have hq:bfS x.snap y=true:=decide_eq_true hb
     rw [if_neg (by omega),if_pos hq,insS_plc fun z hz=>h z (by simp [hz])]
     simp
   · have hq:¬ bfS x.snap y=true:=fun h1=>hb (of_decide_eq_true h1)
     rw [if_pos (by omega),if_neg hq]
     simp
theorem filter_erase {α:Type} {p q:α→Bool}:∀ {l:List α},(∀ y ∈ l,q y=true→¬ p y=true)→(l.Pairwise fun a b=>¬ p a=true→q b=false)→(∃ y ∈ l,q y=true)→l.filter (fun y=>! q y)=l.eraseIdx (plc p l)
 | [],_,_,h=>by simp at h
 | y::r,h1,h2,h3=>by
   have h2':=List.pairwise_cons.1 h2
   rw [plc,List.filter_cons]
   by_cases hp:p y=true
   · have hq:q y=false:=by cases hq:q y with|false=>rfl|true=>exact (h1 y (by simp) hq hp).elim
     rw [hq,if_pos hp,if_pos (by decide),filter_erase (p:=p) (fun z hz=>h1 z (by simp [hz])) h2'.2 ?_]
     · simp
     · obtain ⟨z,hz,hz2⟩:=h3
       rcases List.mem_cons.1 hz with rfl|hz
       · rw [hq] at hz2; cases hz2
       · exact ⟨z,hz,hz2⟩
   · have hr:∀ z ∈ r,q z=false:=fun z hz=>h2'.1 z hz hp
     have hq:q y=true:=by
      obtain ⟨z,hz,hz2⟩:=h3
      rcases List.mem_cons.1 hz with rfl|hz
      · exact hz2
      · rw [hr z hz] at hz2; cases hz2
     rw [hq,if_neg hp,if_neg (by decide)]
     rw [List.filter_eq_self.2 fun z hz=>by rw [hr z hz]; rfl]
     rfl
theorem eraseE {l:List En} (ho:l.Pairwise before) {x:En} (hk:∃ y ∈ l,sameK y x):l.filter (fun y=>! decide (y.name=x.name∧y.ver=x.ver))=l.eraseIdx (plc (bfE x) l):=by
 refine filter_erase (q:=fun y=>decide (y.name=x.name∧y.ver=x.ver)) (fun y _ h=>?_) (ho.imp fun {a b} hab h=>?_) ?_
 · have h:=of_decide_eq_true h
   exact fun hb=>sameK.not_before ⟨h.1,h.2⟩ (of_decide_eq_true hb)
 · refine decide_eq_false fun hb=>h (decide_eq_true ?_)
   rcases hab with h1|⟨h1,h2⟩
   · left; rw [← hb.1]; exact h1
   · right; exact ⟨h1.trans hb.1,by rw [← hb.2]; exact h2⟩
 · obtain ⟨y,hy,h⟩:=hk
   exact ⟨y,hy,decide_eq_true ⟨h.1,h.2⟩⟩
theorem eraseS {l:List Sn} (ho:l.Pairwise fun a b=>a.snap < b.snap) {n:Int} (hk:∃ y ∈ l,y.snap=n):l.filter (fun y=>! decide (y.snap=n))=l.eraseIdx (plc (bfS n) l):=by
 refine filter_erase (q:=fun y=>decide (y.snap=n)) (fun y _ h=>?_) (ho.imp fun {a b} hab h=>?_) ?_
 · have h:=of_decide_eq_true h
   exact fun hb=>by have:=of_decide_eq_true hb; omega
 · refine decide_eq_false fun hb=>h (decide_eq_true ?_)
   omega
 · obtain ⟨y,hy,h⟩:=hk
   exact ⟨y,hy,decide_eq_true h⟩
end C39
/-
 Layer 39 (catalog): backups; sums of strings.
 Conditions: none; definitions and laws with no program in sight.
-/
namespace C39
def sumS (a b:Str):Str:=List.zipWith (· ^^^ ·) a b
theorem sumS_len {a b:Str} (h:a.length=b.length):(sumS a b).length=a.length:=by simp [sumS,h]
theorem sumS_get {a b:Str} {k:Nat} (h:k < (sumS a b).length) (ha:k < a.length) (hb:k < b.length):(sumS a b)[k]=a[k] ^^^ b[k]:=by simp [sumS]
theorem sumS_sum:∀ {a b:Str},a.length=b.length→sumS (sumS a b) b=a
 | [],[],_=>rfl
 | x::a,y::b,h=>by
   have ih:=sumS_sum (a:=a) (b:=b) (by simpa using h)
   have e:x ^^^ y ^^^ y=x:=by rw [UInt8.xor_assoc,UInt8.xor_self,UInt8.xor_zero]
   show ((x ^^^ y) ^^^ y)::sumS (sumS a b) b=x::a
   rw [e,ih]
theorem sumS_comm:∀ {a b:Str},sumS a b=sumS b a
 | [],[]=>rfl
 | [],_::_=>rfl
 | _::_,[]=>rfl
 | x::a,y::b=>by
   show (x ^^^ y)::sumS a b=(y ^^^ x)::sumS b a
   rw [UInt8.xor_comm,sumS_comm]
theorem sumS_other {a b:Str} (h:a.length=b.length):sumS a (sumS a b)=b:=by
 rw [sumS_comm,sumS_comm (a:=a),sumS_sum h.symm]
structure Ln where
 ver:Int
 obj:Int
 last:Int
 cover:Str
 deriving DecidableEq
def lineOf (x:En) (pad:Str):Ln:=⟨x.ver,x.obj,x.last,sumS x.name pad⟩
def exportC (c:Ct) (pads:List Str):List Ln × Int :=
 if chk c ≠ 0 then ([],chk c)
 else if pads.length ≠ c.ents.length then ([],1)
 else if ∀ k (h:k < c.ents.length) (h2:k < pads.length),pads[k].length=c.ents[k].name.length then (List.zipWith lineOf c.ents pads,0)
 else ([],1)
def entOf (l:Ln) (pad:Str):En:=⟨sumS l.cover pad,l.ver,l.obj,l.last⟩
def fits (c:Ct) (x:En):Prop:=rightE x∧c.now≤x.last∧(∀ y ∈ c.ents,¬ sameK y x)∧¬ (0≤lastOf (allE c) x.obj∧lastOf (allE c) x.obj ≠ x.last)∧c.ents.length ≠ 200
instance (c:Ct) (x:En):Decidable (fits c x):=by unfold fits; infer_instance
def takeIn (p:Ct × Int) (l:Ln) (pad:Str):Ct × Int :=
 if pad.length ≠ l.cover.length then p
 else if fits p.1 (entOf l pad) then ({ p.1 with ents:=insE (entOf l pad) p.1.ents },p.2 + 1) else p
def takeAll:Ct × Int→List Ln→List Str→Ct × Int
 | p,l::ls,pad::pads=>takeAll (takeIn p l pad) ls pads
 | p,_,_=>p
def importC (c:Ct) (ls:List Ln) (pads:List Str):Ct × Int × Int :=
 if chk c ≠ 0 then (c,0,chk c)
 else if 200 < ls.length then (c,0,2)
 else if pads.length ≠ ls.length then (c,0,1)
 else ((takeAll (c,0) ls pads).1,(takeAll (c,0) ls pads).2,0)
theorem fits_valid {c:Ct} (h:Valid c) {x:En} (hf:fits c x):Valid { c with ents:=insE x c.ents }:=by
 obtain ⟨f1,f2,f3,f4,f5⟩:=hf
 have hm:∀ y,y ∈ allE { c with ents:=insE x c.ents }↔y=x∨y ∈ allE c:=by
  intro y
  rw [mem_all,mem_all]
  show y ∈ insE _ _∨_↔_
  rw [insE_mem,or_assoc]
 have hl:=h.ents.1
 refine ⟨h.now0,h.now1,⟨by rw [insE_len]; omega,fun y hy=>?_,insE_sorted h.ents.2.2 fun y hy hs=>f3 y hy ⟨hs.1.symm,hs.2.symm⟩⟩,h.few,h.snaps,h.order,fun y hy=>?_,?_⟩
 · rcases insE_mem.1 hy with rfl|hy
   · exact f1
   · exact h.ents.2.1 y hy
 · rcases (hm y).1 hy with rfl|hy
   · exact f2
   · exact h.alive y hy
 · have key:∀ y ∈ allE c,y.obj=x.obj→y.last=x.last:=by
    intro y hy e
    have:=lastOf_spec h.cons hy
    rw [e] at this
    have h0:=(h.right hy).2.2.2.2.2.2.1
    by_cases hq:lastOf (allE c) x.obj=x.last
    · omega
    · exact (f4 ⟨by omega,hq⟩).elim
   intro y hy z hz e
   rcases (hm y).1 hy with hy1|hy1<;>rcases (hm z).1 hz with hz1|hz1
   · rw [hy1,hz1]
   · rw [hy1] at e ⊢; exact (key z hz1 e.symm).symm
   · rw [hz1] at e ⊢; exact key y hy1 e
   · exact h.cons y hy1 z hz1 e
end C39
/-
 Layer 39 (catalog): a backup brings back what it holds.
 Conditions: none; laws with no program in sight.
-/
namespace C39
theorem before_not_same {a b:En} (h:before a b):¬ sameK a b:=by
 rintro ⟨h1,h2⟩
 rcases h with h|⟨_,h⟩
 · rw [h1,slt_irrefl] at h; cases h
 · omega
theorem insE_last {x:En}:∀ {l:List En},(∀ y ∈ l,before y x)→insE x l=l ++ [x]
 | [],_=>rfl
 | y::r,h=>by
   have h1:¬ before x y:=fun h2=>before_irrefl _ (before_trans h2 (h y (by simp)))
   rw [insE,if_neg h1,insE_last fun z hz=>h z (by simp [hz])]; rfl
def maskK (keep:En→Bool) (x:En) (pad:Str):Str:=if keep x=true then pad else []
theorem takeAll_law {c:Ct} (hc:Valid c) (keep:En→Bool):∀ (rest pre:List En) (pads:List Str) (n:Int),(pre ++ rest).Sublist c.ents→pads.length=rest.length →
 (∀ j (h1:j < pads.length) (h2:j < rest.length),pads[j].length=rest[j].name.length) →
 takeAll (⟨c.now,pre,[]⟩,n) (List.zipWith lineOf rest pads) (List.zipWith (maskK keep) rest pads)=(⟨c.now,pre ++ rest.filter keep,[]⟩,n + (rest.filter keep).length)
 | [],pre,pads,n,_,_,_=>by simp [takeAll]
 | x::rest,pre,[],n,_,h,_=>by simp at h
 | x::rest,pre,p::ps,n,hs,hl,hp=>by
   have hp0:p.length=x.name.length:=hp 0 (by simp) (by simp)
   have hp':∀ j (h1:j < ps.length) (h2:j < rest.length),ps[j].length=rest[j].name.length:=fun j h1 h2=>hp (j + 1) (by simpa using h1) (by simpa using h2)
   have hl':ps.length=rest.length:=by simpa using hl
   have hx:x ∈ c.ents:=hs.subset (by simp)
   have hr:=hc.ents.2.1 x hx
   have ho:=hc.ents.2.2.sublist hs
   have hb:∀ y ∈ pre,before y x:=fun y hy=>(List.pairwise_append.1 ho).2.2 y hy x (by simp)
   rw [List.zipWith_cons_cons,List.zipWith_cons_cons,takeAll]
   by_cases hk:keep x=true
   · have he:entOf (lineOf x p) p=x:=by rw [entOf,lineOf,sumS_sum hp0.symm]
     have hf:fits ⟨c.now,pre,[]⟩ x:=by
      refine ⟨hr,hc.alive x (mem_all.2 (.inl hx)),fun y hy=>before_not_same (hb y hy),?_,?_⟩
      · rintro ⟨h1,h2⟩
        rcases lastOf_cases (allE ⟨c.now,pre,[]⟩) x.obj with ⟨h3,_⟩|⟨y,hy,h3,h4⟩
        · omega
        · have hy':y ∈ c.ents:=by
           have:y ∈ pre:=by simpa [allE] using hy
           exact hs.subset (by simp [this])
          have:=hc.cons y (mem_all.2 (.inl hy')) x (mem_all.2 (.inl hx)) h3
          omega
      · have h1:=hs.length_le
        have h2:=hc.ents.1
        simp only [List.length_append,List.length_cons] at h1
        show pre.length ≠ 200
        omega
     have ht:takeIn (⟨c.now,pre,[]⟩,n) (lineOf x p) (maskK keep x p)=(⟨c.now,pre ++ [x],[]⟩,n + 1):=by
      rw [maskK,if_pos hk,takeIn,if_neg (by rw [lineOf,sumS_len hp0.symm]; omega),he,if_pos hf,insE_last hb]
     rw [ht,takeAll_law hc keep rest (pre ++ [x]) ps (n + 1) (by simpa using hs) hl' hp',List.filter_cons,if_pos hk]
     simp only [List.append_assoc,List.singleton_append,List.length_cons,Prod.mk.injEq,true_and]
     omega
   · have ht:takeIn (⟨c.now,pre,[]⟩,n) (lineOf x p) (maskK keep x p)=(⟨c.now,pre,[]⟩,n):=by
      have h1:=hr.1
      rw [maskK,if_neg hk,takeIn,if_pos (by rw [lineOf,sumS_len hp0.symm]; show 0 ≠ _; omega)]
     rw [ht,takeAll_law hc keep rest pre ps n ((List.Sublist.append (List.Sublist.refl pre) (List.sublist_cons_self x rest)).trans hs) hl' hp',List.filter_cons,if_neg hk]
theorem zip_all:∀ {rest:List En} {pads:List Str},pads.length=rest.length→List.zipWith (maskK fun _=>true) rest pads=pads
 | [],[],_=>rfl
 | [],_::_,h=>by simp at h
 | _::_,[],h=>by simp at h
 | x::r,p::ps,h=>by rw [List.zipWith_cons_cons,zip_all (by simpa using h),maskK,if_pos rfl]
theorem filter_all:∀ l:List En,(l.filter fun _=>true)=l:=fun l=>by simp
theorem empty_chk {c:Ct} (hc:Valid c):chk ⟨c.now,[],[]⟩=0 :=
 (chk_iff _).2 ⟨hc.now0,hc.now1,⟨by simp,by simp,by simp⟩,by simp,by simp,by simp,by simp [allE],by simp [allE,consist]⟩
theorem import_some {c:Ct} (hc:Valid c) (keep:En→Bool) {pads:List Str} (hl:pads.length=c.ents.length) (hp:∀ j (h1:j < pads.length) (h2:j < c.ents.length),pads[j].length=c.ents[j].name.length) :
 importC ⟨c.now,[],[]⟩ (List.zipWith lineOf c.ents pads) (List.zipWith (maskK keep) c.ents pads)=((⟨c.now,c.ents.filter keep,[]⟩:Ct),((c.ents.filter keep).length:Int),(0:Int)):=by
 have h1:=hc.ents.1
 rw [importC,if_neg (fun h=>h (empty_chk hc)),if_neg (by rw [List.length_zipWith]; omega),if_neg (by rw [List.length_zipWith,List.length_zipWith]; omega),
  takeAll_law hc keep c.ents [] pads 0 (by simp) hl hp]
 simp
theorem import_all {c:Ct} (hc:Valid c) {pads:List Str} (hl:pads.length=c.ents.length) (hp:∀ j (h1:j < pads.length) (h2:j < c.ents.length),pads[j].length=c.ents[j].name.length) :
 importC ⟨c.now,[],[]⟩ (List.zipWith lineOf c.ents pads) pads=((⟨c.now,c.ents,[]⟩:Ct),(c.ents.length:Int),(0:Int)):=by
 have h:=import_some hc (fun _=>true) hl hp
 rwa [zip_all hl,filter_all] at h
def lineR (now:Int) (l:Ln):Prop:=1≤l.cover.length∧l.cover.length≤64∧1≤l.ver∧l.ver≤1099511627776∧0≤l.obj∧l.obj≤1099511627776∧0≤l.last∧l.last≤1000000∧now≤l.last
theorem line_right {c:Ct} (hc:Valid c) {x:En} {pad:Str} (hx:x ∈ c.ents) (hp:pad.length=x.name.length):lineR c.now (lineOf x pad):=by
 obtain ⟨h1,h2,h3,h4,h5,h6,h7,h8⟩:=hc.ents.2.1 x hx
 have h9:=hc.alive x (mem_all.2 (.inl hx))
 have e:(lineOf x pad).cover.length=x.name.length:=sumS_len hp.symm
 exact ⟨by omega,by omega,h3,h4,h5,h6,h7,h8,h9⟩
theorem import_one {c:Ct} (hc:Valid c) {l:Ln} (hl:lineR c.now l) {name:Str} (hn:l.cover.length=name.length) :
 importC ⟨c.now,[],[]⟩ [l] [sumS l.cover name]=(⟨c.now,[⟨name,l.ver,l.obj,l.last⟩],[]⟩,1,0):=by
 obtain ⟨h1,h2,h3,h4,h5,h6,h7,h8,h9⟩:=hl
 have he:entOf l (sumS l.cover name)=⟨name,l.ver,l.obj,l.last⟩:=by rw [entOf,sumS_other hn]
 have hf:fits ⟨c.now,[],[]⟩ ⟨name,l.ver,l.obj,l.last⟩:=by
  refine ⟨⟨?_,?_,h3,h4,h5,h6,h7,h8⟩,h9,by simp,?_,by simp⟩
  · show 1≤name.length; omega
  · show name.length≤64; omega
  · rintro ⟨h,_⟩
    simp [allE,lastOf] at h
 rw [importC,if_neg (fun h=>h (empty_chk hc)),if_neg (by simp),if_neg (by simp),takeAll,takeIn,if_neg (by rw [sumS_len hn]; simp),he,if_pos hf]
 rfl
end C39
