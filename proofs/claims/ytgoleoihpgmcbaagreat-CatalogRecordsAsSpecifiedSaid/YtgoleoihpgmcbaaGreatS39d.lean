/-
 Layer 39 (catalog): putting in and taking out at a place.
 Conditions: none; laws with no program in sight.
-/
import Derived.Test.YtgoleoihpgmcbaaGreatS39
namespace C39
def plc {α:Type} (p:α→Bool):List α→Nat
 | []=>0
 | y::r=>if p y=true then plc p r + 1 else 0
def bfE (x y:En):Bool:=decide (before y x)
def smE (x y:En):Bool:=decide (sameK y x)
def bfS (n:Int) (s:Sn):Bool:=decide (s.snap < n)
def smS (n:Int) (s:Sn):Bool:=decide (s.snap=n)
theorem plc_le {α:Type} (p:α→Bool):∀ l:List α,plc p l≤l.length
 | []=>Nat.le_refl _
 | y::r=>by have:=plc_le p r; rw [plc]; split<;>simp<;>omega
theorem insE_plc {x:En}:∀ {l:List En},(∀ y ∈ l,¬ sameK y x)→insE x l=l.take (plc (bfE x) l) ++ [x] ++ l.drop (plc (bfE x) l)
 | [],_=>rfl
 | y::r,h=>by
   rw [insE,plc]
   have hy:=h y (by simp)
   by_cases hb:before y x
   · have hq:bfE x y=true:=decide_eq_true hb
     rw [if_neg (before_asymm hb),if_pos hq,insE_plc fun z hz=>h z (by simp [hz])]
     simp
   · have h3:before x y:=by
      rcases before_tri y x with h1|h1|h1
      · exact (hb h1).elim
      · exact (hy h1).elim
      · exact h1
     have hq:¬ bfE x y=true:=fun h1=>hb (of_decide_eq_true h1)
     rw [if_pos h3,if_neg hq]
     simp
theorem insS_plc {x:Sn}:∀ {l:List Sn},(∀ y ∈ l,y.snap ≠ x.snap)→insS x l=l.take (plc (bfS x.snap) l) ++ [x] ++ l.drop (plc (bfS x.snap) l)
 | [],_=>rfl
 | y::r,h=>by
   rw [insS,plc]
   have hy:=h y (by simp)
   by_cases hb:y.snap < x.snap
   · have hq:bfS x.snap y=true:=decide_eq_true hb
     rw [if_neg (by omega),if_pos hq,insS_plc fun z hz=>h z (by simp [hz])]
     simp
   · have hq:¬ bfS x.snap y=true:=fun h1=>hb (of_decide_eq_true h1)
     rw [if_pos (by omega),if_neg hq]
     simp
theorem filter_erase {α:Type} {p q:α→Bool}:∀ {l:List α},(∀ y ∈ l,q y=true→¬ p y=true)→(l.Pairwise fun a b=>¬ p a=true→q b=false)→(∃ y ∈ l,q y=true)→l.filter (fun y=>! q y)=l.eraseIdx (plc p l)
 | [],_,_,h=>by simp at h
 | y::r,h1,h2,h3=>by
   have h2':=List.pairwise_cons.1 h2
   rw [plc,List.filter_cons]
   by_cases hp:p y=true
   · have hq:q y=false:=by cases hq:q y with|false=>rfl|true=>exact (h1 y (by simp) hq hp).elim
     rw [hq,if_pos hp,if_pos (by decide),filter_erase (p:=p) (fun z hz=>h1 z (by simp [hz])) h2'.2 ?_]
     · simp
     · obtain ⟨z,hz,hz2⟩:=h3
       rcases List.mem_cons.1 hz with rfl|hz
       · rw [hq] at hz2; cases hz2
       · exact ⟨z,hz,hz2⟩
   · have hr:∀ z ∈ r,q z=false:=fun z hz=>h2'.1 z hz hp
     have hq:q y=true:=by
      obtain ⟨z,hz,hz2⟩:=h3
      rcases List.mem_cons.1 hz with rfl|hz
      · exact hz2
      · rw [hr z hz] at hz2; cases hz2
     rw [hq,if_neg hp,if_neg (by decide)]
     rw [List.filter_eq_self.2 fun z hz=>by rw [hr z hz]; rfl]
     rfl
theorem eraseE {l:List En} (ho:l.Pairwise before) {x:En} (hk:∃ y ∈ l,sameK y x):l.filter (fun y=>! decide (y.name=x.name∧y.ver=x.ver))=l.eraseIdx (plc (bfE x) l):=by
 refine filter_erase (q:=fun y=>decide (y.name=x.name∧y.ver=x.ver)) (fun y _ h=>?_) (ho.imp fun {a b} hab h=>?_) ?_
 · have h:=of_decide_eq_true h
   exact fun hb=>sameK.not_before ⟨h.1,h.2⟩ (of_decide_eq_true hb)
 · refine decide_eq_false fun hb=>h (decide_eq_true ?_)
   rcases hab with h1|⟨h1,h2⟩
   · left; rw [← hb.1]; exact h1
   · right; exact ⟨h1.trans hb.1,by rw [← hb.2]; exact h2⟩
 · obtain ⟨y,hy,h⟩:=hk
   exact ⟨y,hy,decide_eq_true ⟨h.1,h.2⟩⟩
theorem eraseS {l:List Sn} (ho:l.Pairwise fun a b=>a.snap < b.snap) {n:Int} (hk:∃ y ∈ l,y.snap=n):l.filter (fun y=>! decide (y.snap=n))=l.eraseIdx (plc (bfS n) l):=by
 refine filter_erase (q:=fun y=>decide (y.snap=n)) (fun y _ h=>?_) (ho.imp fun {a b} hab h=>?_) ?_
 · have h:=of_decide_eq_true h
   exact fun hb=>by have:=of_decide_eq_true hb; omega
 · refine decide_eq_false fun hb=>h (decide_eq_true ?_)
   omega
 · obtain ⟨y,hy,h⟩:=hk
   exact ⟨y,hy,decide_eq_true h⟩
end C39
/-
 Layer 39 (catalog): backups; sums of strings.
 Conditions: none; definitions and laws with no program in sight.
-/
namespace C39
def sumS (a b:Str):Str:=List.zipWith (· ^^^ ·) a b
theorem sumS_len {a b:Str} (h:a.length=b.length):(sumS a b).length=a.length:=by simp [sumS,h]
theorem sumS_get {a b:Str} {k:Nat} (h:k < (sumS a b).length) (ha:k < a.length) (hb:k < b.length):(sumS a b)[k]=a[k] ^^^ b[k]:=by simp [sumS]
structure Ln where
 ver:Int
 obj:Int
 last:Int
 cover:Str
 deriving DecidableEq
def lineOf (x:En) (pad:Str):Ln:=⟨x.ver,x.obj,x.last,sumS x.name pad⟩
def exportC (c:Ct) (pads:List Str):List Ln × Int :=
 if chk c ≠ 0 then ([],chk c)
 else if pads.length ≠ c.ents.length then ([],1)
 else if ∀ k (h:k < c.ents.length) (h2:k < pads.length),pads[k].length=c.ents[k].name.length then (List.zipWith lineOf c.ents pads,0)
 else ([],1)
def entOf (l:Ln) (pad:Str):En:=⟨sumS l.cover pad,l.ver,l.obj,l.last⟩
def fits (c:Ct) (x:En):Prop:=rightE x∧c.now≤x.last∧(∀ y ∈ c.ents,¬ sameK y x)∧¬ (0≤lastOf (allE c) x.obj∧lastOf (allE c) x.obj ≠ x.last)∧c.ents.length ≠ 200
instance (c:Ct) (x:En):Decidable (fits c x):=by unfold fits; infer_instance
def takeIn (p:Ct × Int) (l:Ln) (pad:Str):Ct × Int :=
 if pad.length ≠ l.cover.length then p
 else if fits p.1 (entOf l pad) then ({ p.1 with ents:=insE (entOf l pad) p.1.ents },p.2 + 1) else p
def takeAll:Ct × Int→List Ln→List Str→Ct × Int
 | p,l::ls,pad::pads=>takeAll (takeIn p l pad) ls pads
 | p,_,_=>p
def importC (c:Ct) (ls:List Ln) (pads:List Str):Ct × Int × Int :=
 if chk c ≠ 0 then (c,0,chk c)
 else if 200 < ls.length then (c,0,2)
 else if pads.length ≠ ls.length then (c,0,1)
 else ((takeAll (c,0) ls pads).1,(takeAll (c,0) ls pads).2,0)
theorem fits_valid {c:Ct} (h:Valid c) {x:En} (hf:fits c x):Valid { c with ents:=insE x c.ents }:=by
 obtain ⟨f1,f2,f3,f4,f5⟩:=hf
 have hm:∀ y,y ∈ allE { c with ents:=insE x c.ents }↔y=x∨y ∈ allE c:=by
  intro y
  rw [mem_all,mem_all]
  show y ∈ insE _ _∨_↔_
  rw [insE_mem,or_assoc]
 have hl:=h.ents.1
 refine ⟨h.now0,h.now1,⟨by rw [insE_len]; omega,fun y hy=>?_,insE_sorted h.ents.2.2 fun y hy hs=>f3 y hy ⟨hs.1.symm,hs.2.symm⟩⟩,h.few,h.snaps,h.order,fun y hy=>?_,?_⟩
 · rcases insE_mem.1 hy with rfl|hy
   · exact f1
   · exact h.ents.2.1 y hy
 · rcases (hm y).1 hy with rfl|hy
   · exact f2
   · exact h.alive y hy
 · have key:∀ y ∈ allE c,y.obj=x.obj→y.last=x.last:=by
    intro y hy e
    have:=lastOf_spec h.cons hy
    rw [e] at this
    have h0:=(h.right hy).2.2.2.2.2.2.1
    by_cases hq:lastOf (allE c) x.obj=x.last
    · omega
    · exact (f4 ⟨by omega,hq⟩).elim
   intro y hy z hz e
   rcases (hm y).1 hy with hy1|hy1<;>rcases (hm z).1 hz with hz1|hz1
   · rw [hy1,hz1]
   · rw [hy1] at e ⊢; exact (key z hz1 e.symm).symm
   · rw [hz1] at e ⊢; exact key y hy1 e
   · exact h.cons y hy1 z hz1 e
end C39
