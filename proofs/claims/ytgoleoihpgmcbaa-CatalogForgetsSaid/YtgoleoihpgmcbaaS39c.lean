/-
 Layer 39 (catalog): what an operation leaves behind.
 Conditions: none; laws with no program in sight.
-/
import Derived.Test.YtgoleoihpgmcbaaS39
namespace C39
theorem find_last {l:List En} {x:En} (hs:l.Pairwise before) (hx:x ∈ l) (hv:∀ y ∈ l,y.name=x.name→y.ver≤x.ver):l.reverse.find? (fun y=>decide (y.name=x.name∧((0:Int)=0∨y.ver=0)))=some x:=by
 obtain ⟨a,b,rfl⟩:=List.append_of_mem hx
 have hb:=(List.pairwise_cons.1 (List.pairwise_append.1 hs).2.1).1
 rw [List.reverse_append,List.reverse_cons,List.append_assoc,List.find?_append]
 have hn:b.reverse.find? (fun y=>decide (y.name=x.name∧((0:Int)=0∨y.ver=0)))=none:=by
  refine List.find?_eq_none.2 fun y hy=>?_
  have hy:=List.mem_reverse.1 hy
  simp only [true_or,and_true,decide_eq_true_eq]
  intro e
  have h1:=hv y (by simp [hy]) e
  rcases hb y hy with h2|⟨_,h2⟩
  · rw [e,slt_irrefl] at h2; cases h2
  · omega
 rw [hn]
 simp
theorem do_tick {c:Ct} {o:Co} (hk:o.kind=1) (he:(doC c o).2=0):∀ x ∈ allE (doC c o).1,¬ x.last < o.tick:=by
 revert he
 unfold doC tickC
 by_cases h0:chk c ≠ 0
 · rw [if_pos h0]; intro h; exact absurd h h0
 rw [if_neg h0,if_pos hk]
 split
 · intro h; simp at h
 split
 · intro h; simp at h
 intro _ x hx
 obtain ⟨y,hy,e⟩:=mem_sweep.1 hx
 obtain ⟨h1,rfl⟩:=keepIf_some.1 e
 have:=of_decide_eq_true h1
 omega
theorem do_forget {c:Ct} {o:Co} (hk:o.kind=4) (he:(doC c o).2=0):∀ x ∈ allE (doC c o).1,¬ x.obj=o.obj:=by
 revert he
 unfold doC forgetC
 by_cases h0:chk c ≠ 0
 · rw [if_pos h0]; intro h; exact absurd h h0
 rw [if_neg h0,if_neg (by omega),if_neg (by omega),if_neg (by omega),if_pos hk]
 split
 · intro h; simp at h
 intro _ x hx
 obtain ⟨y,hy,e⟩:=mem_sweep.1 hx
 obtain ⟨h1,rfl⟩:=keepIf_some.1 e
 exact of_decide_eq_true h1
theorem do_put {c:Ct} {o:Co} (hk:o.kind=2) (he:(doC c o).2=0) :
 findC (doC c o).1 o.name 0=(⟨o.name,nextVer (allE c) o.name,o.obj,o.last⟩,0)∧∀ y ∈ allE c,¬ (y.name=o.name∧nextVer (allE c) o.name≤y.ver):=by
 by_cases h0:chk c ≠ 0
 · unfold doC at he; rw [if_pos h0] at he; exact absurd he h0
 have hv:Valid c:=(chk_iff c).1 (by omega)
 have hv2:=do_valid hv o
 refine ⟨?_,fun y hy h=>?_⟩
 · have hc:=(chk_iff _).2 hv2
   unfold findC
   rw [if_neg (by omega)]
   have hs:=hv2.ents.2.2
   revert he hs
   unfold doC
   rw [if_neg h0,if_neg (by omega),if_pos hk]
   unfold putC
   split
   · intro h; simp at h
   split
   · intro h; simp at h
   split
   · intro h; simp at h
   split
   · intro h; simp at h
   split
   · intro h; simp at h
   intro _ hs
   have:=find_last (x:=⟨o.name,nextVer (allE c) o.name,o.obj,o.last⟩) hs (insE_mem.2 (.inl rfl)) (fun y hy e=>by
    rcases insE_mem.1 hy with rfl|hy
    · exact Int.le_refl _
    · have h1:=nextVer_gt (l:=allE c) (mem_all.2 (.inl hy))
      rw [e] at h1
      exact Int.le_of_lt h1)
   simp only at this ⊢
   rw [this]
 · have:=nextVer_gt hy
   rw [h.1] at this
   omega
end C39
