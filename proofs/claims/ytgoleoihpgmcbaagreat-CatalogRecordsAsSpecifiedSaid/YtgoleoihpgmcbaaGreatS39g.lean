/-
 Layer 39 (catalog): operations as strings.
 Conditions: none; definitions and laws with no program in sight.
-/
import Derived.Test.YtgoleoihpgmcbaaGreatS39
import Derived.Test.YtgoleoihpgmcbaaGreatS01
namespace C39
open CW
def encO (o:Co):Str:=intsB [o.kind,o.tick,o.ver,o.obj,o.last,o.snap] ++ bytesB o.name
def zeroO:Co:=⟨0,0,0,0,0,0,[]⟩
def rightO (o:Co):Prop:=i64 o.kind∧i64 o.tick∧i64 o.ver∧i64 o.obj∧i64 o.last∧i64 o.snap
theorem rightO.all {o:Co} (h:rightO o):∀ x ∈ [o.kind,o.tick,o.ver,o.obj,o.last,o.snap],i64 x:=by
 obtain ⟨h1,h2,h3,h4,h5,h6⟩:=h
 intro x hx
 simp only [List.mem_cons,List.not_mem_nil,or_false] at hx
 rcases hx with rfl|rfl|rfl|rfl|rfl|rfl<;>assumption
def opOf:List Int→Str→Co
 | [a,b,c,d,e,f],s=>⟨a,b,c,d,e,f,s⟩
 | _,_=>zeroO
def decS (s:Str):Co × Int :=
 if (getInts s).2.2 ≠ 0∨(getInts s).1.length ≠ 6 then (zeroO,11)
 else if (getBytes (s.drop (getInts s).2.1.toNat)).2.2 ≠ 0∨(getInts s).2.1 + (getBytes (s.drop (getInts s).2.1.toNat)).2.1 ≠ s.length then (zeroO,11)
 else (opOf (getInts s).1 (getBytes (s.drop (getInts s).2.1.toNat)).1,0)
theorem six:∀ {l:List Int},l.length=6→∃ a b c d e f,l=[a,b,c,d,e,f]
 | [a,b,c,d,e,f],_=>⟨a,b,c,d,e,f,rfl⟩
 | [],h|[_],h|[_,_],h|[_,_,_],h|[_,_,_,_],h|[_,_,_,_,_],h=>by simp at h
 | _::_::_::_::_::_::_::_,h=>by simp at h
theorem enc_iff {s name:Str} {a b c d e f:Int} {n m:Int} (h1:getInts s=([a,b,c,d,e,f],n,0)) (h2:getBytes (s.drop n.toNat)=(name,m,0)) :
 encO ⟨a,b,c,d,e,f,name⟩=s↔n + m=s.length:=by
 obtain ⟨k,rfl,h3,h4,_⟩:=getInts_canon h1
 rw [Int.toNat_natCast] at h2
 obtain ⟨q,rfl,h5,h6⟩:=getBytes_canon h2
 rw [List.length_drop] at h5
 show intsB [a,b,c,d,e,f] ++ bytesB name=s↔_
 rw [← h4,← h6]
 constructor
 · intro h
   have:=congrArg List.length h
   simp only [List.length_append,List.length_take,List.length_drop] at this
   omega
 · intro h
   rw [← List.take_add,List.take_of_length_le (by omega)]
theorem dec_enc {o:Co} (h:rightO o) (hn:o.name.length≤1000000):decS (encO o)=(o,0):=by
 have h1:=getInts_ints h.all (show i64 _ by exact ⟨by simp,by simp⟩) (bytesB o.name)
 have h2:=getBytes_bytes (s:=o.name) ⟨by omega,by omega⟩ []
 rw [List.append_nil] at h2
 have hd:(encO o).drop (intsB [o.kind,o.tick,o.ver,o.obj,o.last,o.snap]).length=bytesB o.name:=List.drop_left
 have h1:getInts (encO o)=_:=h1
 unfold decS
 rw [h1]
 simp only [Int.toNat_natCast]
 rw [hd,h2]
 rw [if_neg (by simp),if_neg (by simp [encO])]
 rfl
theorem encO_len {o:Co} (h:rightO o) (hn:o.name.length≤1000):(encO o).length≤1100:=by
 have h1:=ints_len h.all
 have h2:=intB_len (n:=([o.kind,o.tick,o.ver,o.obj,o.last,o.snap].length:Nat)) ⟨by simp,by simp⟩
 have h3:=intB_len (n:=(o.name.length:Int)) ⟨by omega,by omega⟩
 simp only [encO,intsB,bytesB,List.length_append]
 simp only [List.length_cons,List.length_nil] at h1 h2 ⊢
 omega
theorem decS_bad1 {s:Str} {l:List Int} {n e:Int} (h:getInts s=(l,n,e)) (hc:e ≠ 0∨l.length ≠ 6):decS s=(zeroO,11):=by
 unfold decS; rw [if_pos (by rw [h]; exact hc)]
theorem decS_bad2 {s t:Str} {l:List Int} {n m e:Int} (h:getInts s=(l,n,0)) (h6:l.length=6) (h2:getBytes (s.drop n.toNat)=(t,m,e)) (hc:e ≠ 0∨n + m ≠ s.length):decS s=(zeroO,11):=by
 unfold decS; rw [if_neg (by rw [h]; simp [h6]),if_pos (by rw [h]; simp only; rw [h2]; exact hc)]
theorem decS_good {s t:Str} {l:List Int} {n m:Int} (h:getInts s=(l,n,0)) (h6:l.length=6) (h2:getBytes (s.drop n.toNat)=(t,m,0)) (hc:n + m=s.length):decS s=(opOf l t,0):=by
 unfold decS; rw [if_neg (by rw [h]; simp [h6]),if_neg (by rw [h]; simp only; rw [h2]; simp [hc]),h]; simp only; rw [h2]
theorem opOf_get {l:List Int} (h:l.length=6) (s:Str):opOf l s=⟨l[0],l[1],l[2],l[3],l[4],l[5],s⟩:=by
 obtain ⟨a,b,c,d,e,f,rfl⟩:=six h
 rfl
def repS:Ct→Int→List Str→Ct × Int × Int
 | c,k,[]=>(c,k,0)
 | c,k,s::r=>if (decS s).2 ≠ 0 then (c,k,(decS s).2) else if (doC c (decS s).1).2 ≠ 0 then (c,k,(doC c (decS s).1).2) else repS (doC c (decS s).1).1 (k + 1) r
end C39
