/-
 Operations that lay something new,or that have more than one outcome.
 Conditions: none;laws.
-/
import Derived.Test.YtailhmffljoojaaEO12
import Derived.Laws.MakeOwn
namespace Go.E2
open Go.MapKept
section
variable {S:Stb} {ms:List (Nat→Nat)} {ow:Nat→Option Nat} {base:Nat} {O:Nat→Prop} {ρ:Env} {L:Hp} {σ:List Hp} {G:Gh} {a:Act} {w:World} {c:Ctx} {P:Program}
theorem zq5 {es:List ME} {vs:Array MapEntry} (hsz:vs.size=es.length) (hent:∀ (j:Nat) (e:ME) (v:MapEntry),es[j]?=some e→vs[j]?=some v→zc9 S e v) {v:MapEntry} (hv:v∈vs.toList):∃ e∈es,zc9 S e v:=by
 obtain ⟨j,hj⟩:=List.getElem?_of_mem hv
 have hj':vs[j]?=some v:=by simpa using hj
 have hlt:j<es.length:=by have:=(Array.getElem?_eq_some_iff.1 hj').1;omega
 exact ⟨es[j],List.getElem_mem hlt,hent j _ v (List.getElem?_eq_getElem hlt) hj'⟩
theorem ztd {es:List ME} {vs:Array MapEntry} (hsz:vs.size=es.length) (hent:∀ (j:Nat) (e:ME) (v:MapEntry),es[j]?=some e→vs[j]?=some v→zc9 S e v) {e:ME} (he:e∈es):∃ v∈vs.toList,zc9 S e v:=by
 obtain ⟨j,hj⟩:=List.getElem?_of_mem he
 obtain ⟨v,hv⟩:=ziu hsz hj
 exact ⟨v,by rw [Array.mem_toList_iff];exact Array.mem_of_getElem? hv,hent j e v hj hv⟩
theorem z6f (h:Rel S ms ow base O ρ L σ G a w) {o:Oper} {k:GN} {as:List AO} (hc:zb4 c o.dst o.op=some (.gn k as)) (hd:∀ i,o.dst=some i→i<a.tmps.size) {vs:List D} (hvs:zq ρ as=some vs) {K:AV→Gh→Prop} (hg:gnW k vs G K) :
 ∃ r G1,K r G1∧zc5 c.P S ms ow base O σ a w o (put ρ o.dst r,L,σ,G1):=by
 obtain ⟨dst,op,ty,pos,after,guard⟩:=o
 simp only at hc hd
 cases op with
 | alloc e =>
  simp only [zb4] at hc
  split at hc
  · split at hc
    · rename_i n z hn hz
      split at hc
      · rename_i hzn
        cases Option.some.inj hc
        obtain rfl:=z9 hvs
        obtain ⟨zv,hzr,hzs,hzo,_⟩:=zbi (S:=S) hz
        have hr:(execOp a.eval ⟨dst,.alloc e,ty,pos,after,guard⟩).run c.P w=.ok (.value (.pointer (some ⟨w.heap.size,0,none⟩))) (w.alloc (.cells zv.cells e)):=by
         simp only [execOp,Instr.alloc,Sem.run_bind,hzr,Result.andThen_ok,ze5,Sem.run_pure]
        exact ⟨_,_,hg w.heap.size h.g_none,zc5.mk' (r:=.d (.gp w.heap.size 0)) h hd (.inl hr) (h.allocG zav (fun b hb=>zn hb) ⟨zv.cells,e,z4,hzs,hzo⟩) (Evo.alloc h.bas _) (VRD.gp _ _) (fun _ _ e=>by cases e)⟩
      · cases hc
    · cases hc
  · cases hc
 | box e x =>
  simp only [zb4] at hc
  split at hc
  · split at hc
    · rename_i n x' hn hx
      cases Option.some.inj hc
      obtain ⟨d1,ds1,rfl,e1,h2⟩:=zm hvs
      obtain rfl:=z9 h2
      have hv:=zap h.tmpT hx e1
      have hr:(execOp a.eval ⟨dst,.box e x,ty,pos,after,guard⟩).run c.P w=.ok (.value (.pointer (some ⟨w.heap.size,0,none⟩))) (w.alloc (.cells (a.eval x).cells e)):=by
       simp only [execOp,Instr.box,Sem.run_bind,ze5,Result.andThen_ok,Sem.run_pure]
      exact ⟨_,_,hg.2 w.heap.size h.g_none,zc5.mk' (r:=.d (.gp w.heap.size 0)) h hd (.inl hr) (h.allocG zav (fun b hb=>zn hb) ⟨_,e,z4,hv.cells.1,ze4 hg.1⟩) (Evo.alloc h.bas _) (VRD.gp _ _) (fun _ _ e=>by cases e)⟩
    · cases hc
  · cases hc
 | makeMap t x =>
  cases x with
  | some x=>simp [zb4] at hc
  | none =>
   simp only [zb4,Option.map_eq_some_iff] at hc
   obtain ⟨p,hm,e⟩:=hc
   cases e
   obtain rfl:=z9 hvs
   have hr:(execOp a.eval ⟨dst,.makeMap t none,ty,pos,after,guard⟩).run c.P w=.ok (.value (.map (some w.heap.size))) (w.alloc (.map #[] 0)):=by
    simp [execOp,Instr.makeMap]
   obtain ⟨k1,k2⟩:=h.newM (o1:=.map [] 0) (obj:=.map #[] 0) ⟨#[],rfl,rfl,fun j e v h=>by simp at h⟩
   exact ⟨_,_,hg w.heap.size h.m_none,zc5.mk' (r:=.d (.mref w.heap.size)) h hd (.inl hr) k1 k2 (VRD.mref _) (fun _ _ e=>by cases e)⟩
 | makeSlice t x y =>
  simp only [zb4] at hc
  split at hc
  · rename_i e he
    split at hc
    · rename_i sz by_ z l q hsz hby hz hl hq
      split at hc
      · rename_i hcond
        cases Option.some.inj hc
        obtain ⟨d1,ds1,rfl,e1,h2⟩:=zm hvs
        obtain ⟨d2,ds2,rfl,e2,h3⟩:=zm h2
        obtain rfl:=z9 h3
        have hut:=zes he
        obtain ⟨k1,n1,rfl⟩:∃ k n,d1=.int k n:=by cases d1<;>first|exact ⟨_,_,rfl⟩|simp [gnW] at hg
        obtain ⟨k2,n2,rfl⟩:∃ k n,d2=.int k n:=by cases d2<;>first|exact ⟨_,_,rfl⟩|simp [gnW] at hg
        have hlv:=(zap h.tmpT hl e1).int_inv
        have hqv:=(zap h.tmpT hq e2).int_inv
        obtain ⟨g1,g2,g3,g4⟩:=hg
        obtain ⟨i,hi,hisz⟩:=zce hsz
        have hbi:by_=i.bytes:=by unfold tby at hby;rw [hi] at hby;simp at hby;exact hby.symm
        obtain ⟨zv,hzr,hzs,hzo,i',hi',hiz⟩:=zbi (S:=S) hz
        rw [hi] at hi'
        cases hi'
        have hzl:zv.cells.size=sz:=by have:=hzs.1;simp at this;omega
        subst hbi
        have hb2:(i.bytes:Int) * n2≤281474976710656:=by
         obtain ⟨m,rfl⟩:∃ m:Nat,n2=m:=⟨n2.toNat,by omega⟩
         simp only [Int.toNat_natCast,mostBytes] at g3
         have:((i.bytes * m:Nat):Int)≤281474976710656:=by rw [Nat.mul_comm];omega
         rwa [Int.natCast_mul] at this
        have h63:n2≤9223372036854775807:=by
         obtain ⟨m,rfl⟩:∃ m:Nat,n2=m:=⟨n2.toNat,by omega⟩
         simp only [Int.toNat_natCast,mostBytes] at g3
         have:=Nat.le_mul_of_pos_right m hcond.2.1
         omega
        have hmake:=run_make (P:=c.P) w t e i zv hut hi hiz k1 k2 n1 n2 g1 g2 hb2 h63
        have hcells:madeCells zv.cells (n2.toNat * i.size)=Builtin.zeroCells zv.cells n2.toNat:=by
         simp [madeCells,Builtin.zeroCells,hisz,hzl]
        rw [hcells] at hmake
        have hr:(execOp a.eval ⟨dst,.makeSlice t x y,ty,pos,after,guard⟩).run c.P w=.ok (.value (.slice (some ⟨w.heap.size,0,none⟩) n1.toNat n2.toNat)) (w.alloc (.cells (Builtin.zeroCells zv.cells n2.toNat) e)):=by
         simp [execOp,hlv,hqv,hmake]
        exact ⟨_,_,g4 w.heap.size h.g_none,zc5.mk' (r:=.d (.gs w.heap.size 0 n1.toNat n2.toNat)) h hd (.inl hr) (h.allocG zav (fun b hb=>zn hb) ⟨_,e,z4,zb7 hzs _,zef hzo _⟩) (Evo.alloc h.bas _) (VRD.gs _ _ _ _ (by omega)) (fun _ _ e=>by cases e)⟩
      · cases hc
    · cases hc
  · cases hc
 | range t x =>
  simp only [zb4] at hc
  split at hc
  · rename_i p x' hm hx
    cases Option.some.inj hc
    obtain ⟨d1,ds1,rfl,e1,h2⟩:=zm hvs
    obtain rfl:=z9 h2
    have hxv:=zap h.tmpT hx e1
    have hu:=ze3 (P:=c.P) (t:=t) (k:=p.1) (e:=p.2) hm
    simp only [gnW] at hg
    split at hg
    · have hxv':=zf8 hxv
      have hr:(execOp a.eval ⟨dst,.range t x,ty,pos,after,guard⟩).run c.P w=.ok (.value (.pointer (some ⟨w.heap.size,0,none⟩))) (w.alloc (.mapIter none 0 #[] 0)):=by
       simp [execOp,hxv',Instr.range,run_underlying hu]
      obtain ⟨k1,k2⟩:=h.newM (o1:=.iter none 0 [] 0) (obj:=.mapIter none 0 #[] 0) rfl
      exact ⟨_,_,hg w.heap.size h.m_none,zc5.mk' (r:=.d (.gp w.heap.size 0)) h hd (.inl hr) k1 k2 (VRD.gp _ _) (fun _ _ e=>by cases e)⟩
    · rename_i q
      split at hg
      · rename_i es clock hq
        obtain ⟨vs',hvs',hsz,hent⟩:=h.h.x.map hq
        have hxv':=zdf hxv
        have hr:(execOp a.eval ⟨dst,.range t x,ty,pos,after,guard⟩).run c.P w=.ok (.value (.pointer (some ⟨w.heap.size,0,none⟩))) (w.alloc (.mapIter (some q) clock #[] clock)):=by
         simp [execOp,hxv',Instr.range,run_underlying hu,MapKept.run_getObj_map hvs']
        obtain ⟨k1,k2⟩:=h.newM (o1:=.iter (some q) clock [] clock) (obj:=.mapIter (some q) clock #[] clock) rfl
        exact ⟨_,_,hg w.heap.size h.m_none,zc5.mk' (r:=.d (.gp w.heap.size 0)) h hd (.inl hr) k1 k2 (VRD.gp _ _) (fun _ _ e=>by cases e)⟩
      · exact hg.elim
    · exact hg.elim
  · cases hc
 | next x y =>
  cases y with
  | true=>simp [zb4] at hc
  | false =>
   simp only [zb4,Option.map_eq_some_iff] at hc
   obtain ⟨x',hx,e⟩:=hc
   cases e
   obtain ⟨d1,ds1,rfl,e1,h2⟩:=zm hvs
   obtain rfl:=z9 h2
   have hxv:=zap h.tmpT hx e1
   obtain ⟨r,rfl⟩:∃ q,d1=.gp q 0:=by
    cases d1 with
    | gp q off=>cases off with
      | zero=>exact ⟨q,rfl⟩
      | succ n=>simp [gnW] at hg
    | _=>simp [gnW] at hg
   have hxv':=zfd hxv
   simp only [gnW] at hg
   split at hg
   · rename_i s0 s1 s2 hm
     have hit:w.heap[r]?=some (.mapIter none s0 s1.toArray s2):=h.h.x r _ hm
     have hr:(Instr.next (a.eval x) false ty).run c.P w=.ok (.tuple #[.bool false]) w:=by
      rw [hxv'];simp [Instr.next,getObj,Sem.run,hit,Result.andThen]
     exact ⟨_,_,hg,zc5.mk' (r:=.tup [.bool false]) (v:=.tuple #[.bool false]) h hd (.inl (by simp [execOp,hr])) h (Evo.refl _ _ _ _) ⟨_,rfl,zx.cons (VRD.bool _) zx.nil⟩ (fun _ _ e=>by cases e)⟩
   · rename_i q since seen last hm
     have hit:w.heap[r]?=some (.mapIter (some q) since seen.toArray last):=h.h.x r _ hm
     split at hg
     · rename_i es clock hq
       obtain ⟨vs',hvs',hsz,hent⟩:=h.h.x.map hq
       obtain ⟨⟨g1,g2⟩,g3,g4⟩:=hg
       have hold:∀ x∈vs'.toList,x.born<since:=fun v hv=>by
        obtain ⟨e,he,hok⟩:=zq5 hsz hent hv
        rw [hok.2.2];exact g1 e he
       rcases Go.run_next_at (P:=c.P) w ty r q since last seen.toArray vs' clock hit hvs' hold g2 with ⟨hl0,hr⟩|⟨e,he,w1,hw1,hr⟩
       · have hall:∀ e∈es,e.b∈seen:=by
          intro e he
          obtain ⟨v,hv,hok⟩:=ztd hsz hent he
          by_cases hs:e.b∈seen
          · exact hs
          · exfalso
            have:v∈(leftOf vs' seen.toArray):=by
             unfold leftOf
             rw [Array.mem_filter]
             refine ⟨by simpa using hv,?_⟩
             rw [hok.2.2]
             simpa using hs
            have:=Array.size_pos_of_mem this
            omega
         exact ⟨_,_,g3 hall,zc5.mk' (r:=.tup [.bool false]) (v:=.tuple #[.bool false]) h hd (.inl (by rw [← hxv'] at hr;simp [execOp,hr])) h (Evo.refl _ _ _ _) ⟨_,rfl,zx.cons (VRD.bool _) zx.nil⟩ (fun _ _ e=>by cases e)⟩
       · have hmem:e∈vs'.toList∧e.born ∉ seen:=by
          unfold leftOf at he
          rw [Array.mem_toList_iff,Array.mem_filter] at he
          refine ⟨by simpa using he.1,by simpa using he.2⟩
         obtain ⟨e0,he0,hok⟩:=zq5 hsz hent hmem.1
         have hns:e0.b ∉ seen:=by rw [← hok.2.2];exact hmem.2
         have hk:=g4 e0 he0 hns
         have hrel1:Rel S ms ow base O ρ L σ G a w1:=by
          rcases hw1 with rfl|rfl
          · exact h
          · exact h.drawn _
         have hm1:G.m r=some (.iter (some q) since seen last):=hm
         obtain ⟨k1,k2⟩:=hrel1.setM hm1 (o1:=.iter (some q) since (seen++[e0.b]) clock) (obj:=.mapIter (some q) since (seen.toArray.push e.born) clock) (by
          show some (Obj.mapIter (some q) since (seen.toArray.push e.born) clock)=some (.mapIter (some q) since (seen++[e0.b]).toArray clock)
          rw [hok.2.2];simp)
         have k2':Evo base O S w S (w1.putObj r (.mapIter (some q) since (seen.toArray.push e.born) clock)):=by
          rcases hw1 with rfl|rfl
          · exact k2
          · exact k2.drawn _
         refine ⟨_,_,hk,zc5.mk' (r:=.tup [.bool true,e0.k,e0.v]) (v:=.tuple #[.bool true,e.key,e.val]) h hd (.inl (by rw [← hxv'] at hr;simp [execOp,hr];rfl)) k1 k2' ⟨_,rfl,zx.cons (VRD.bool _) (zq1 hok.1 hok.2.1)⟩ (fun _ _ e=>by cases e)⟩
     · exact hg.elim
   · exact hg.elim
 | lookup t m q ok =>
  simp only [zb4] at hc
  split at hc
  · split at hc<;>cases hc
  · cases hc
 | mapUpdate t m q x =>
  simp only [zb4] at hc
  split at hc
  · split at hc<;>cases hc
  · cases hc
 | insert t m q x =>
  simp only [zb4] at hc
  split at hc
  · split at hc<;>cases hc
  · cases hc
 | mapEntry t m q =>
  simp only [zb4] at hc
  split at hc
  · split at hc<;>cases hc
  · cases hc
 | entryStore t m s x =>
  simp only [zb4] at hc
  split at hc
  · split at hc<;>cases hc
  · cases hc
 | entry it =>
  simp only [zb4,Option.map_eq_some_iff] at hc
  obtain ⟨_,_,e⟩:=hc
  cases e
 | binOp bop t p q u =>
  simp only [zb4] at hc
  split at hc
  · split at hc<;>cases hc
  · cases hc
 | makeFunc fn first caps =>
  cases fn with
  | func f =>
   simp only [zb4] at hc
   split at hc
   · simp only [Option.map_eq_some_iff] at hc
     obtain ⟨_,_,e⟩:=hc
     cases e
   · split at hc
     · simp only [Option.map_eq_some_iff] at hc
       obtain ⟨_,_,e⟩:=hc
       cases e
     · cases hc
  | _=>simp [zb4] at hc
 | slice t x lo hi mx =>
  simp only [zb4] at hc
  split at hc
  · split at hc
    · split at hc<;>cases hc
    · cases hc
  · cases hc
 | convert s d x =>
  simp only [zb4] at hc
  split at hc
  · split at hc
    · split at hc
      · split at hc
        · simp only [Option.map_eq_some_iff] at hc
          obtain ⟨_,_,e⟩:=hc
          cases e
        · cases hc
      · cases hc
    · cases hc
  · cases hc
 | call cl =>
  obtain ⟨callee,⟨as'⟩,⟨ts⟩⟩:=cl
  simp only [zb4] at hc
  split at hc
  · split at hc<;>cases hc
  · split at hc
    · split at hc<;>cases hc
    · cases hc
  · split at hc
    · split at hc
      · split at hc<;>cases hc
      · cases hc
    · cases hc
  · split at hc
    · split at hc<;>cases hc
    · cases hc
  · cases hc
 | sliceToArrayPointer arr x =>
  simp only [zb4] at hc
  split at hc<;>cases hc
 | _=>simp [zb4] at hc
end
end Go.E2
