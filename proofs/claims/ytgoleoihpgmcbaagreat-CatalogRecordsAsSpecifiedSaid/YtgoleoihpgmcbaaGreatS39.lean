/-
 Layer 39 (catalog): what a catalog is,and what its functions compute,in plain mathematics.
 Conditions: none; definitions and laws with no program in sight.
-/
namespace C39
abbrev Str:=List UInt8
structure En where
 name:Str
 ver:Int
 obj:Int
 last:Int
 deriving DecidableEq
structure Sn where
 snap:Int
 ents:List En
 deriving DecidableEq
structure Ct where
 now:Int
 ents:List En
 snaps:List Sn
 deriving DecidableEq
structure Co where
 kind:Int
 tick:Int
 ver:Int
 obj:Int
 last:Int
 snap:Int
 name:Str
 deriving DecidableEq
def slt:Str→Str→Bool
 | _,[]=>false
 | [],_::_=>true
 | a::x,b::y=>a < b || (a == b && slt x y)
theorem slt_irrefl:∀ x,slt x x=false
 | []=>rfl
 | a::x=>by simp [slt,slt_irrefl x]
theorem slt_trans:∀ {x y z:Str},slt x y=true→slt y z=true→slt x z=true
 | _,[],_,h,_=>by simp [slt] at h
 | _,_::_,[],_,h=>by simp [slt] at h
 | [],b::y,c::z,_,_=>rfl
 | a::x,b::y,c::z,h1,h2=>by
   simp only [slt,Bool.or_eq_true,decide_eq_true_eq,Bool.and_eq_true,beq_iff_eq] at h1 h2 ⊢
   rcases h1 with h1|⟨rfl,h1⟩<;>rcases h2 with h2|⟨rfl,h2⟩
   · exact .inl (UInt8.lt_trans h1 h2)
   · exact .inl h1
   · exact .inl h2
   · exact .inr ⟨rfl,slt_trans h1 h2⟩
theorem slt_tri:∀ (x y:Str),slt x y=true∨x=y∨slt y x=true
 | [],[]=>.inr (.inl rfl)
 | [],_::_=>.inl rfl
 | _::_,[]=>.inr (.inr rfl)
 | a::x,b::y=>by
   simp only [slt,Bool.or_eq_true,decide_eq_true_eq,Bool.and_eq_true,beq_iff_eq,List.cons.injEq]
   by_cases h:a < b
   · exact .inl (.inl h)
   by_cases h':b < a
   · exact .inr (.inr (.inl h'))
   obtain rfl:a=b:=UInt8.le_antisymm (UInt8.not_lt.1 h') (UInt8.not_lt.1 h)
   rcases slt_tri x y with h2|rfl|h2
   · exact .inl (.inr ⟨rfl,h2⟩)
   · exact .inr (.inl ⟨rfl,rfl⟩)
   · exact .inr (.inr (.inr ⟨rfl,h2⟩))
theorem slt_asymm {x y:Str} (h:slt x y=true):slt y x=false:=by
 cases h':slt y x with
 | false=>rfl
 | true=>have:=slt_trans h h'; rw [slt_irrefl] at this; cases this
def before (a b:En):Prop:=slt a.name b.name=true∨a.name=b.name∧a.ver < b.ver
instance (a b:En):Decidable (before a b):=by unfold before; infer_instance
theorem before_irrefl (a:En):¬ before a a:=by
 rintro (h|⟨_,h⟩)
 · rw [slt_irrefl] at h; cases h
 · omega
theorem before_trans {a b c:En} (h:before a b) (h':before b c):before a c:=by
 rcases h with h|⟨h,g⟩<;>rcases h' with h'|⟨h',g'⟩
 · exact .inl (slt_trans h h')
 · exact .inl (by rw [← h']; exact h)
 · exact .inl (by rw [h]; exact h')
 · exact .inr ⟨h.trans h',by omega⟩
theorem before_asymm {a b:En} (h:before a b):¬ before b a:=fun h'=>before_irrefl a (before_trans h h')
def sameK (a b:En):Prop:=a.name=b.name∧a.ver=b.ver
instance (a b:En):Decidable (sameK a b):=by unfold sameK; infer_instance
theorem before_tri (a b:En):before a b∨sameK a b∨before b a:=by
 rcases slt_tri a.name b.name with h|h|h
 · exact .inl (.inl h)
 · by_cases h1:a.ver < b.ver
   · exact .inl (.inr ⟨h,h1⟩)
   by_cases h2:b.ver < a.ver
   · exact .inr (.inr (.inr ⟨h.symm,h2⟩))
   · exact .inr (.inl ⟨h,by omega⟩)
 · exact .inr (.inr (.inl h))
theorem sameK.not_before {a b:En} (h:sameK a b):¬ before a b:=by
 rintro (h'|⟨_,h'⟩)
 · rw [h.1,slt_irrefl] at h'; cases h'
 · have:=h.2; omega
def rightE (x:En):Prop:=1≤x.name.length∧x.name.length≤64∧1≤x.ver∧x.ver≤1099511627776∧0≤x.obj∧x.obj≤1099511627776∧0≤x.last∧x.last≤1000000
instance (x:En):Decidable (rightE x):=by unfold rightE; infer_instance
def okL:Option En→List En→Prop
 | _,[]=>True
 | p,x::r=>rightE x∧(∀ y,p=some y→before y x)∧okL (some x) r
instance decPrev (p:Option En) (x:En):Decidable (∀ y,p=some y→before y x) :=
 match p with
 | none=>isTrue (fun _ h=>by cases h)
 | some y=>if h:before y x then isTrue (fun _ e=>by cases e; exact h) else isFalse (fun g=>h (g _ rfl))
instance okLdec:∀ (p:Option En) (l:List En),Decidable (okL p l)
 | _,[]=>isTrue trivial
 | p,x::r=>by
   have:=okLdec (some x) r
   unfold okL; infer_instance
def listedC (l:List En):Int:=if 200 < l.length then 2 else if okL none l then 0 else 1
def above (p:Option Int) (n:Int):Prop:=∀ q,p=some q→q < n
instance (p:Option Int) (n:Int):Decidable (above p n) :=
 match p with
 | none=>isTrue (fun _ h=>by cases h)
 | some q=>if h:q < n then isTrue (fun _ e=>by cases e; exact h) else isFalse (fun g=>h (g _ rfl))
def snErr (p:Option Int) (s:Sn):Int :=
 if listedC s.ents ≠ 0 then listedC s.ents else if s.snap < 0∨1099511627776 < s.snap∨¬ above p s.snap then 1 else 0
def snsErr:Option Int→List Sn→Int
 | _,[]=>0
 | p,s::r=>if snErr p s ≠ 0 then snErr p s else snsErr (some s.snap) r
def allE (c:Ct):List En:=c.ents ++ (c.snaps.map (·.ents)).flatten
def dead (c:Ct):Prop:=∃ x ∈ allE c,x.last < c.now
def consist (l:List En):Prop:=∀ x ∈ l,∀ y ∈ l,x.obj=y.obj→x.last=y.last
instance (c:Ct):Decidable (dead c):=by unfold dead; infer_instance
instance (l:List En):Decidable (consist l):=by unfold consist; infer_instance
def chk (c:Ct):Int :=
 if c.now < 0∨1000000 < c.now then 3
 else if 200 < c.ents.length∨10 < c.snaps.length then 2
 else if listedC c.ents ≠ 0 then listedC c.ents
 else if snsErr none c.snaps ≠ 0 then snsErr none c.snaps
 else if dead c then 18
 else if consist (allE c) then 0 else 4
def lastOf (l:List En) (n:Int):Int:=match l.find? (fun x=>decide (x.obj=n)) with|some x=>x.last|none=>-1
def sweepC (f:En→Option En) (c:Ct):Ct:={ c with ents:=c.ents.filterMap f,snaps:=c.snaps.map fun s=>{ s with ents:=s.ents.filterMap f } }
def keepIf (p:En→Bool) (x:En):Option En:=if p x=true then some x else none
def insE (x:En):List En→List En
 | []=>[x]
 | y::r=>if before x y then x::y::r else y::insE x r
def nextVer (l:List En) (name:Str):Int:=l.foldl (fun v y=>if y.name=name then max v (y.ver + 1) else v) 1
def insS (n:Sn):List Sn→List Sn
 | []=>[n]
 | y::r=>if n.snap < y.snap then n::y::r else y::insS n r
def putC (c:Ct) (o:Co):Ct × Int :=
 if ¬ rightE ⟨o.name,1,o.obj,o.last⟩ then (c,1)
 else if o.last < c.now then (c,18)
 else if 0≤lastOf (allE c) o.obj∧lastOf (allE c) o.obj ≠ o.last then (c,4)
 else if 200≤c.ents.length then (c,13)
 else if 1099511627776 < nextVer (allE c) o.name then (c,3)
 else ({ c with ents:=insE ⟨o.name,nextVer (allE c) o.name,o.obj,o.last⟩ c.ents },0)
def snapC (c:Ct) (n:Int):Ct × Int :=
 if n < 0∨1099511627776 < n then (c,1)
 else if ∃ s ∈ c.snaps,s.snap=n then (c,9)
 else if 10≤c.snaps.length then (c,13)
 else ({ c with snaps:=insS ⟨n,c.ents⟩ c.snaps },0)
def tickC (c:Ct) (o:Co):Ct × Int :=
 if o.tick < c.now then (c,15)
 else if 1000000 < o.tick then (c,3)
 else (sweepC (keepIf fun x=>decide (o.tick≤x.last)) { c with now:=o.tick },0)
def dropC (c:Ct) (o:Co):Ct × Int :=
 if ∃ x ∈ c.ents,x.name=o.name∧x.ver=o.ver then ({ c with ents:=c.ents.filter fun x=>! decide (x.name=o.name∧x.ver=o.ver) },0) else (c,8)
def forgetC (c:Ct) (o:Co):Ct × Int :=
 if lastOf (allE c) o.obj < 0 then (c,8) else (sweepC (keepIf fun x=>decide (x.obj ≠ o.obj)) c,0)
def longE (n t:Int) (x:En):En:=if x.obj=n then { x with last:=t } else x
def extendC (c:Ct) (o:Co):Ct × Int :=
 if lastOf (allE c) o.obj < 0 then (c,8)
 else if o.last≤lastOf (allE c) o.obj∨1000000 < o.last then (c,3)
 else (sweepC (fun x=>some (longE o.obj o.last x)) c,0)
def unsnapC (c:Ct) (o:Co):Ct × Int :=
 if ∃ s ∈ c.snaps,s.snap=o.snap then ({ c with snaps:=c.snaps.filter fun s=>! decide (s.snap=o.snap) },0) else (c,8)
def doC (c:Ct) (o:Co):Ct × Int :=
 if chk c ≠ 0 then (c,chk c)
 else if o.kind=1 then tickC c o
 else if o.kind=2 then putC c o
 else if o.kind=3 then dropC c o
 else if o.kind=4 then forgetC c o
 else if o.kind=5 then extendC c o
 else if o.kind=6 then snapC c o.snap
 else if o.kind=7 then unsnapC c o
 else (c,1)
def noEn:En:=⟨[],0,0,0⟩
def findC (c:Ct) (name:Str) (ver:Int):En × Int :=
 if chk c ≠ 0 then (noEn,chk c)
 else match c.ents.reverse.find? (fun x=>decide (x.name=name∧(ver=0∨x.ver=ver))) with
 | some x=>(x,0)
 | none=>(noEn,8)
def listC (c:Ct) (pre:Str):List En × Int :=
 if chk c ≠ 0 then ([],chk c) else (c.ents.filter fun x=>pre.isPrefixOf x.name,0)
end C39
/-
 Layer 39 (catalog): what is right stays right.
 Conditions: none; laws with no program in sight.
-/
namespace C39
theorem okL_iff:∀ (p:Option En) (l:List En),okL p l↔(∀ x ∈ l,rightE x)∧l.Pairwise before∧∀ y,p=some y→∀ x ∈ l,before y x
 | p,[]=>by simp [okL]
 | p,x::r=>by
   rw [okL,okL_iff (some x) r,List.pairwise_cons]
   constructor
   · rintro ⟨h1,h2,h3,h4,h5⟩
     refine ⟨?_,⟨fun y hy=>h5 x rfl y hy,h4⟩,?_⟩
     · intro y hy
       rcases List.mem_cons.1 hy with rfl|hy
       · exact h1
       · exact h3 y hy
     · intro y hp z hz
       rcases List.mem_cons.1 hz with rfl|hz
       · exact h2 y hp
       · exact before_trans (h2 y hp) (h5 x rfl z hz)
   · rintro ⟨h1,⟨h2,h3⟩,h4⟩
     exact ⟨h1 x (by simp),fun y hp=>h4 y hp x (by simp),fun y hy=>h1 y (by simp [hy]),h3,fun y e z hz=>by cases e; exact h2 z hz⟩
def goodL (l:List En):Prop:=l.length≤200∧(∀ x ∈ l,rightE x)∧l.Pairwise before
theorem listed_iff (l:List En):listedC l=0↔goodL l:=by
 unfold listedC goodL
 by_cases h:200 < l.length
 · rw [if_pos h]; constructor
   · intro e; cases e
   · intro ⟨h',_⟩; omega
 · rw [if_neg h]
   by_cases h2:okL none l
   · rw [if_pos h2]
     have:=(okL_iff _ _).1 h2
     exact ⟨fun _=>⟨by omega,this.1,this.2.1⟩,fun _=>rfl⟩
   · rw [if_neg h2]
     exact ⟨fun e=>absurd e (by decide),fun ⟨_,h3,h4⟩=>(h2 ((okL_iff _ _).2 ⟨h3,h4,fun _ e=>by cases e⟩)).elim⟩
def goodS (s:Sn):Prop:=goodL s.ents∧0≤s.snap∧s.snap≤1099511627776
theorem snErr_iff (p:Option Int) (s:Sn):snErr p s=0↔goodS s∧above p s.snap:=by
 unfold snErr goodS
 rw [← listed_iff]
 by_cases h:listedC s.ents=0
 · rw [if_neg (by simpa using h)]
   by_cases h2:s.snap < 0∨1099511627776 < s.snap∨¬ above p s.snap
   · rw [if_pos h2]
     constructor
     · intro e; cases e
     · rintro ⟨⟨_,h3,h4⟩,h5⟩
       rcases h2 with h2|h2|h2
       · omega
       · omega
       · exact (h2 h5).elim
   · rw [if_neg h2]
     simp only [not_or,Int.not_lt,Classical.not_not] at h2
     exact ⟨fun _=>⟨⟨h,h2.1,h2.2.1⟩,h2.2.2⟩,fun _=>rfl⟩
 · rw [if_pos h]
   exact ⟨fun e=>(h e).elim,fun e=>(h e.1.1).elim⟩
theorem snsErr_iff:∀ (p:Option Int) (l:List Sn),snsErr p l=0↔(∀ s ∈ l,goodS s)∧l.Pairwise (fun a b=>a.snap < b.snap)∧∀ q,p=some q→∀ s ∈ l,q < s.snap
 | p,[]=>by simp [snsErr]
 | p,s::r=>by
   have ih:=snsErr_iff (some s.snap) r
   have hs:=snErr_iff p s
   rw [snsErr,List.pairwise_cons]
   by_cases h:snErr p s=0
   · rw [if_neg (by simpa using h),ih]
     have h1:=hs.1 h
     constructor
     · rintro ⟨h3,h4,h5⟩
       refine ⟨?_,⟨fun y hy=>h5 _ rfl y hy,h4⟩,?_⟩
       · intro y hy
         rcases List.mem_cons.1 hy with rfl|hy
         · exact h1.1
         · exact h3 y hy
       · intro q hq z hz
         rcases List.mem_cons.1 hz with rfl|hz
         · exact h1.2 q hq
         · exact Int.lt_trans (h1.2 q hq) (h5 _ rfl z hz)
     · rintro ⟨h3,⟨h4,h5⟩,h6⟩
       exact ⟨fun y hy=>h3 y (by simp [hy]),h5,fun q e z hz=>by cases e; exact h4 z hz⟩
   · rw [if_pos h]
     constructor
     · intro e; exact (h e).elim
     · rintro ⟨h3,_,h6⟩
       exact (h (hs.2 ⟨h3 s (by simp),fun q hq=>h6 q hq s (by simp)⟩)).elim
structure Valid (c:Ct):Prop where
 now0:0≤c.now
 now1:c.now≤1000000
 ents:goodL c.ents
 few:c.snaps.length≤10
 snaps:∀ s ∈ c.snaps,goodS s
 order:c.snaps.Pairwise (fun a b=>a.snap < b.snap)
 alive:∀ x ∈ allE c,c.now≤x.last
 cons:consist (allE c)
theorem chk_iff (c:Ct):chk c=0↔Valid c:=by
 unfold chk
 constructor
 · intro h
   split at h
   · cases h
   split at h
   · cases h
   split at h
   · exact absurd h ‹_›
   split at h
   · exact absurd h ‹_›
   split at h
   · cases h
   split at h
   · rename_i h1 h2 h3 h4 h5 h6
     have h3:listedC c.ents=0:=by omega
     have h4:snsErr none c.snaps=0:=by omega
     have hs:=(snsErr_iff _ _).1 h4
     refine ⟨by omega,by omega,(listed_iff _).1 h3,by omega,hs.1,hs.2.1,fun x hx=>?_,h6⟩
     by_cases hd:x.last < c.now
     · exact (h5 ⟨x,hx,hd⟩).elim
     · omega
   · cases h
 · intro h
   have h1:=(listed_iff _).2 h.ents
   have h2:snsErr none c.snaps=0:=(snsErr_iff _ _).2 ⟨h.snaps,h.order,fun _ e=>by cases e⟩
   have hn:=h.now0; have hn1:=h.now1; have hf:=h.few; have he:=h.ents.1
   have hd:¬ dead c:=by rintro ⟨x,hx,hd⟩; have:=h.alive x hx; omega
   rw [if_neg (by omega),if_neg (by omega),if_neg (by omega),if_neg (by omega),if_neg hd,if_pos h.cons]
theorem mem_all {c:Ct} {x:En}:x ∈ allE c↔x ∈ c.ents∨∃ s ∈ c.snaps,x ∈ s.ents:=by
 unfold allE
 rw [List.mem_append,List.mem_flatten]
 constructor
 · rintro (h|⟨l,hl,hx⟩)
   · exact .inl h
   · obtain ⟨s,hs,rfl⟩:=List.mem_map.1 hl
     exact .inr ⟨s,hs,hx⟩
 · rintro (h|⟨s,hs,hx⟩)
   · exact .inl h
   · exact .inr ⟨_,List.mem_map.2 ⟨s,hs,rfl⟩,hx⟩
theorem Valid.right {c:Ct} (h:Valid c) {x:En} (hx:x ∈ allE c):rightE x:=by
 rcases mem_all.1 hx with hx|⟨s,hs,hx⟩
 · exact h.ents.2.1 x hx
 · exact (h.snaps s hs).1.2.1 x hx
theorem goodL.filterMap {l:List En} (h:goodL l) {f:En→Option En} (hf:∀ x ∈ l,∀ y,f x=some y→rightE y∧y.name=x.name∧y.ver=x.ver):goodL (l.filterMap f):=by
 refine ⟨Nat.le_trans (List.length_filterMap_le ..) h.1,fun y hy=>?_,?_⟩
 · obtain ⟨x,hx,e⟩:=List.mem_filterMap.1 hy
   exact (hf x hx y e).1
 · rw [List.pairwise_filterMap]
   refine List.Pairwise.imp_of_mem (fun {a b} ha hb hab=>?_) h.2.2
   intro y hy z hz
   have h1:=hf a ha y hy
   have h2:=hf b hb z hz
   unfold before
   rw [h1.2.1,h1.2.2,h2.2.1,h2.2.2]
   exact hab
theorem mem_sweep {f:En→Option En} {c:Ct} {y:En}:y ∈ allE (sweepC f c)↔∃ x ∈ allE c,f x=some y:=by
 rw [mem_all]
 constructor
 · rintro (h|⟨s,hs,h⟩)
   · obtain ⟨x,hx,e⟩:=List.mem_filterMap.1 h
     exact ⟨x,mem_all.2 (.inl hx),e⟩
   · obtain ⟨s',hs',rfl⟩:=List.mem_map.1 hs
     obtain ⟨x,hx,e⟩:=List.mem_filterMap.1 h
     exact ⟨x,mem_all.2 (.inr ⟨s',hs',hx⟩),e⟩
 · rintro ⟨x,hx,e⟩
   rcases mem_all.1 hx with hx|⟨s,hs,hx⟩
   · exact .inl (List.mem_filterMap.2 ⟨x,hx,e⟩)
   · exact .inr ⟨_,List.mem_map.2 ⟨s,hs,rfl⟩,List.mem_filterMap.2 ⟨x,hx,e⟩⟩
theorem Valid.sweep {c:Ct} (h:Valid c) {t:Int} (h0:0≤t) (h1:t≤1000000) {f:En→Option En}
 (hf:∀ x ∈ allE c,∀ y,f x=some y→rightE y∧y.name=x.name∧y.ver=x.ver∧y.obj=x.obj∧t≤y.last)
 (hc:∀ x ∈ allE c,∀ y ∈ allE c,x.obj=y.obj→x.last=y.last→∀ x' y',f x=some x'→f y=some y'→x'.last=y'.last):Valid (sweepC f { c with now:=t }) where
 now0:=h0
 now1:=h1
 ents:=h.ents.filterMap fun x hx y e=>have:=hf x (mem_all.2 (.inl hx)) y e; ⟨this.1,this.2.1,this.2.2.1⟩
 few:=by show (c.snaps.map _).length≤10; rw [List.length_map]; exact h.few
 snaps:=fun s hs=>by
  obtain ⟨s',hs',rfl⟩:=List.mem_map.1 hs
  have hg:=h.snaps s' hs'
  exact ⟨hg.1.filterMap fun x hx y e=>have:=hf x (mem_all.2 (.inr ⟨s',hs',hx⟩)) y e; ⟨this.1,this.2.1,this.2.2.1⟩,hg.2⟩
 order:=by
  show (c.snaps.map _).Pairwise _
  rw [List.pairwise_map]; exact h.order
 alive:=fun y hy=>by
  obtain ⟨x,hx,e⟩:=mem_sweep.1 hy
  exact (hf x hx y e).2.2.2.2
 cons:=fun y hy z hz e=>by
  obtain ⟨x,hx,ex⟩:=mem_sweep.1 hy
  obtain ⟨w,hw,ew⟩:=mem_sweep.1 hz
  have h1:=hf x hx y ex
  have h2:=hf w hw z ew
  have h3:x.obj=w.obj:=by rw [← h1.2.2.2.1,← h2.2.2.2.1]; exact e
  exact hc x hx w hw h3 (h.cons x hx w hw h3) y z ex ew
theorem keepIf_some {p:En→Bool} {x y:En}:keepIf p x=some y↔p x=true∧y=x:=by
 unfold keepIf; by_cases h:p x=true<;>simp [h,eq_comm]
theorem tick_valid {c:Ct} (h:Valid c) (o:Co):Valid (tickC c o).1:=by
 unfold tickC
 split
 · exact h
 split
 · exact h
 have h0:=h.now0
 refine h.sweep (t:=o.tick) (by omega) (by omega) (fun x hx y e=>?_) (fun x hx y hy _ hl x' y' e1 e2=>?_)
 · obtain ⟨h1,rfl⟩:=keepIf_some.1 e
   exact ⟨h.right hx,rfl,rfl,rfl,of_decide_eq_true h1⟩
 · obtain ⟨_,rfl⟩:=keepIf_some.1 e1
   obtain ⟨_,rfl⟩:=keepIf_some.1 e2
   exact hl
theorem forget_valid {c:Ct} (h:Valid c) (o:Co):Valid (forgetC c o).1:=by
 unfold forgetC
 split
 · exact h
 refine h.sweep (t:=c.now) h.now0 h.now1 (fun x hx y e=>?_) (fun x hx y hy _ hl x' y' e1 e2=>?_)
 · obtain ⟨h1,rfl⟩:=keepIf_some.1 e
   exact ⟨h.right hx,rfl,rfl,rfl,h.alive _ hx⟩
 · obtain ⟨_,rfl⟩:=keepIf_some.1 e1
   obtain ⟨_,rfl⟩:=keepIf_some.1 e2
   exact hl
theorem lastOf_spec {l:List En} (h:consist l) {x:En} (hx:x ∈ l):lastOf l x.obj=x.last:=by
 unfold lastOf
 cases e:l.find? (fun y=>decide (y.obj=x.obj)) with
 | none=>have:=List.find?_eq_none.1 e x hx; simp at this
 | some y=>exact h y (List.mem_of_find?_eq_some e) x hx (by simpa using List.find?_some e)
theorem lastOf_none {l:List En} {n:Int} (h:∀ x ∈ l,x.obj ≠ n):lastOf l n=-1:=by
 unfold lastOf
 rw [List.find?_eq_none.2 fun x hx=>by simpa using h x hx]
theorem longE_le {c:Ct} {o:Co} (hl:lastOf (allE c) o.obj < o.last) (hc:consist (allE c)) {x:En} (hx:x ∈ allE c):x.last≤(longE o.obj o.last x).last:=by
 unfold longE
 split
 · rename_i e
   have:=lastOf_spec hc hx
   rw [e] at this; show x.last≤o.last; omega
 · exact Int.le_refl _
theorem extend_valid {c:Ct} (h:Valid c) (o:Co):Valid (extendC c o).1:=by
 unfold extendC
 split
 · exact h
 split
 · exact h
 rename_i h1 h2
 refine h.sweep (t:=c.now) h.now0 h.now1 (fun x hx y e=>?_) (fun x hx y hy ho hl x' y' e1 e2=>?_)
 · cases e
   have hr:=h.right hx
   have hle:=longE_le (o:=o) (by omega) h.cons hx
   have ha:=h.alive x hx
   obtain ⟨r1,r2,r3,r4,r5,r6,r7,r8⟩:=hr
   refine ⟨⟨?_,?_,?_,?_,?_,?_,by omega,?_⟩,?_,?_,?_,by omega⟩<;>(unfold longE; split)<;>first|assumption|rfl|(show o.last≤1000000; omega)
 · cases e1; cases e2
   unfold longE
   rw [ho]
   split
   · rfl
   · exact hl
theorem insE_mem {x y:En}:∀ {l:List En},y ∈ insE x l↔y=x∨y ∈ l
 | []=>by simp [insE]
 | z::r=>by
   rw [insE]; split
   · simp
   · rw [List.mem_cons,insE_mem,List.mem_cons]; constructor
     · rintro (h|h|h)<;>simp [h]
     · rintro (h|h|h)<;>simp [h]
theorem insE_len (x:En):∀ l:List En,(insE x l).length=l.length + 1
 | []=>rfl
 | z::r=>by rw [insE]; split<;>simp [insE_len x r]
theorem insE_sorted {x:En}:∀ {l:List En},l.Pairwise before→(∀ y ∈ l,¬ sameK x y)→(insE x l).Pairwise before
 | [],_,_=>by simp [insE]
 | z::r,h,hn=>by
   have h':=List.pairwise_cons.1 h
   rw [insE]; split
   · rename_i hb
     refine List.pairwise_cons.2 ⟨fun y hy=>?_,h⟩
     rcases List.mem_cons.1 hy with rfl|hy
     · exact hb
     · exact before_trans hb (h'.1 y hy)
   · rename_i hb
     refine List.pairwise_cons.2 ⟨fun y hy=>?_,insE_sorted h'.2 fun y hy=>hn y (by simp [hy])⟩
     rcases insE_mem.1 hy with rfl|hy
     · rcases before_tri y z with h1|h1|h1
       · exact (hb h1).elim
       · exact (hn z (by simp) h1).elim
       · exact h1
     · exact h'.1 y hy
theorem nextVer_le {name:Str}:∀ {l:List En} {v:Int},v≤l.foldl (fun v y=>if y.name=name then max v (y.ver + 1) else v) v
 | [],v=>Int.le_refl _
 | y::r,v=>by
   rw [List.foldl_cons]
   refine Int.le_trans ?_ nextVer_le
   split
   · exact Int.le_max_left _ _
   · exact Int.le_refl _
theorem nextVer_gt' {name:Str}:∀ {l:List En} {v:Int} {x:En},x ∈ l→x.name=name→x.ver < l.foldl (fun v y=>if y.name=name then max v (y.ver + 1) else v) v
 | y::r,v,x,h,hn=>by
   rw [List.foldl_cons]
   rcases List.mem_cons.1 h with rfl|h
   · rw [if_pos hn]
     have h1:=nextVer_le (name:=name) (l:=r) (v:=max v (x.ver + 1))
     have h2:=Int.le_max_right v (x.ver + 1)
     omega
   · exact nextVer_gt' h hn
theorem nextVer_gt {l:List En} {x:En} (h:x ∈ l):x.ver < nextVer l x.name:=nextVer_gt' h rfl
theorem nextVer_ge (l:List En) (name:Str):1≤nextVer l name:=nextVer_le
theorem put_valid {c:Ct} (h:Valid c) (o:Co):Valid (putC c o).1:=by
 unfold putC
 split
 · exact h
 split
 · exact h
 split
 · exact h
 split
 · exact h
 split
 · exact h
 rename_i h1 h2 h3 h4 h5
 have h1:rightE ⟨o.name,1,o.obj,o.last⟩:=Classical.not_not.1 h1
 obtain ⟨r1,r2,r3,r4,r5,r6,r7,r8⟩:=h1
 have hv:=nextVer_ge (allE c) o.name
 have hm:∀ y,y ∈ allE { c with ents:=insE ⟨o.name,nextVer (allE c) o.name,o.obj,o.last⟩ c.ents }↔y=⟨o.name,nextVer (allE c) o.name,o.obj,o.last⟩∨y ∈ allE c:=by
  intro y
  rw [mem_all,mem_all]
  show y ∈ insE _ _∨_↔_
  rw [insE_mem,or_assoc]
 refine ⟨h.now0,h.now1,⟨by rw [insE_len]; omega,fun y hy=>?_,insE_sorted h.ents.2.2 fun y hy hs=>?_⟩,h.few,h.snaps,h.order,fun y hy=>?_,?_⟩
 · rcases insE_mem.1 hy with rfl|hy
   · exact ⟨r1,r2,by show 1≤nextVer _ _; omega,by show nextVer _ _≤_; omega,r5,r6,r7,r8⟩
   · exact h.ents.2.1 y hy
 · have:=nextVer_gt (l:=allE c) (mem_all.2 (.inl hy))
   have h7:=hs.1; have h8:=hs.2
   simp only at h7 h8
   rw [← h7] at this
   omega
 · rcases (hm y).1 hy with rfl|hy
   · show c.now≤o.last; omega
   · exact h.alive y hy
 · have key:∀ y ∈ allE c,y.obj=o.obj→y.last=o.last:=by
    intro y hy e
    have:=lastOf_spec h.cons hy
    rw [e] at this
    have h0:=(h.right hy).2.2.2.2.2.2.1
    by_cases hq:lastOf (allE c) o.obj=o.last
    · omega
    · exact (h3 ⟨by omega,hq⟩).elim
   intro y hy z hz e
   rcases (hm y).1 hy with rfl|hy<;>rcases (hm z).1 hz with rfl|hz
   · rfl
   · exact (key z hz e.symm).symm
   · exact key y hy e
   · exact h.cons y hy z hz e
theorem insS_mem {x y:Sn}:∀ {l:List Sn},y ∈ insS x l↔y=x∨y ∈ l
 | []=>by simp [insS]
 | z::r=>by
   rw [insS]; split
   · simp
   · rw [List.mem_cons,insS_mem,List.mem_cons]; constructor
     · rintro (h|h|h)<;>simp [h]
     · rintro (h|h|h)<;>simp [h]
theorem insS_len (x:Sn):∀ l:List Sn,(insS x l).length=l.length + 1
 | []=>rfl
 | z::r=>by rw [insS]; split<;>simp [insS_len x r]
theorem insS_sorted {x:Sn}:∀ {l:List Sn},l.Pairwise (fun a b=>a.snap < b.snap)→(∀ y ∈ l,y.snap ≠ x.snap)→(insS x l).Pairwise (fun a b=>a.snap < b.snap)
 | [],_,_=>by simp [insS]
 | z::r,h,hn=>by
   have h':=List.pairwise_cons.1 h
   have hz:=hn z (by simp)
   rw [insS]; split
   · rename_i hb
     refine List.pairwise_cons.2 ⟨fun y hy=>?_,h⟩
     rcases List.mem_cons.1 hy with rfl|hy
     · exact hb
     · exact Int.lt_trans hb (h'.1 y hy)
   · rename_i hb
     refine List.pairwise_cons.2 ⟨fun y hy=>?_,insS_sorted h'.2 fun y hy=>hn y (by simp [hy])⟩
     rcases insS_mem.1 hy with rfl|hy
     · omega
     · exact h'.1 y hy
theorem snap_valid {c:Ct} (h:Valid c) (n:Int):Valid (snapC c n).1:=by
 unfold snapC
 split
 · exact h
 split
 · exact h
 split
 · exact h
 rename_i h1 h2 h3
 have hm:∀ y,y ∈ allE { c with snaps:=insS ⟨n,c.ents⟩ c.snaps }→y ∈ allE c:=by
  intro y hy
  rcases mem_all.1 hy with hy|⟨s,hs,hy⟩
  · exact mem_all.2 (.inl hy)
  · rcases insS_mem.1 hs with rfl|hs
    · exact mem_all.2 (.inl hy)
    · exact mem_all.2 (.inr ⟨s,hs,hy⟩)
 refine ⟨h.now0,h.now1,h.ents,by rw [insS_len]; omega,fun s hs=>?_,insS_sorted h.order fun y hy e=>h2 ⟨y,hy,e⟩,fun y hy=>h.alive y (hm y hy),fun y hy z hz e=>h.cons y (hm y hy) z (hm z hz) e⟩
 rcases insS_mem.1 hs with rfl|hs
 · exact ⟨h.ents,by show 0≤n; omega,by show n≤_; omega⟩
 · exact h.snaps s hs
theorem Valid.sub {c:Ct} (h:Valid c) {l:List En} {k:List Sn} (hl:l.Sublist c.ents) (hk:k.Sublist c.snaps):Valid { c with ents:=l,snaps:=k }:=by
 have hm:∀ y,y ∈ allE { c with ents:=l,snaps:=k }→y ∈ allE c:=by
  intro y hy
  rcases mem_all.1 hy with hy|⟨s,hs,hy⟩
  · exact mem_all.2 (.inl (hl.subset hy))
  · exact mem_all.2 (.inr ⟨s,hk.subset hs,hy⟩)
 exact ⟨h.now0,h.now1,⟨Nat.le_trans hl.length_le h.ents.1,fun y hy=>h.ents.2.1 y (hl.subset hy),h.ents.2.2.sublist hl⟩,Nat.le_trans hk.length_le h.few,fun s hs=>h.snaps s (hk.subset hs),h.order.sublist hk,
  fun y hy=>h.alive y (hm y hy),fun y hy z hz e=>h.cons y (hm y hy) z (hm z hz) e⟩
theorem drop_valid {c:Ct} (h:Valid c) (o:Co):Valid (dropC c o).1:=by
 unfold dropC
 split
 · exact h.sub List.filter_sublist (List.Sublist.refl _)
 · exact h
theorem unsnap_valid {c:Ct} (h:Valid c) (o:Co):Valid (unsnapC c o).1:=by
 unfold unsnapC
 split
 · exact h.sub (List.Sublist.refl _) List.filter_sublist
 · exact h
theorem do_valid {c:Ct} (h:Valid c) (o:Co):Valid (doC c o).1:=by
 have hc:=(chk_iff c).2 h
 unfold doC
 rw [if_neg (by omega)]
 repeat' split
 · exact tick_valid h o
 · exact put_valid h o
 · exact drop_valid h o
 · exact forget_valid h o
 · exact extend_valid h o
 · exact snap_valid h _
 · exact unsnap_valid h o
 · exact h
theorem do_err {c:Ct} {o:Co} (h:(doC c o).2 ≠ 0):(doC c o).1=c:=by
 revert h
 unfold doC tickC putC dropC forgetC extendC snapC unsnapC
 repeat' split
 all_goals first|(intro _; rfl)|(intro h; exact absurd rfl h)
end C39
