/-
 Layer 39 (catalog),continued: Find of the program.
 Conditions: of each contract as it says.
-/
import Derived.Test.YtgoleoihpgmcbaaGreatG39p
import Derived.Test.YtgoleoihpgmcbaaGreatS39d
namespace Go.Proofs.YtgoleoihpgmcbaaGreat
open Go Go.E2 C39
set_option linter.unusedSimpArgs false
set_option maxHeartbeats 1000000
theorem sep_dropM {r:Nat} {o:MO} {R:List As} {G:Gh} (h:Sep (ObjA r o::R) G):Sep R (G.setM r none):=by
 obtain ⟨G1,G2,h1,h2,h3,h4,h5⟩:=h
 have hn:G2.m r=none:=(h3.m r).resolve_left (by rw [h4]; simp)
 refine h5.mono ⟨h2.c,fun i v e=>?_⟩
 rw [Gh.setM_m]
 unfold upd
 split
 · rename_i hi; subst hi; rw [hn] at e; cases e
 · exact h2.m _ _ e
theorem sep_ne {a b:Nat} {x y:List D} {R:List As} {G:Gh} (h:Sep (CellA a x::CellA b y::R) G):a ≠ b:=by
 obtain ⟨G1,G2,_,_,h3,h4,h5⟩:=h
 have hb:=h5.get
 rintro rfl
 rcases h3.c a with e|e
 · rw [show G1.c a=some x from h4] at e; cases e
 · rw [hb] at e; cases e
theorem argEnv2_le (l:List (Nat × AV)) (l':List (Nat × D)) (p q:Nat) (x y:D) (h:∀ p ∈ l',E l p.1=.d p.2):∀ i,VLe (argEnv (dataEnv (E l)) [p,q] [x,y] i) (E ((q,.d y)::(p,.d x)::l'.map fun p=>(p.1,.d p.2)) i):=by
 intro i
 have:=dataEnv_le l l' h i
 simp only [argEnv,upd,E]
 split
 · exact .refl _
 · split
   · exact .refl _
   · exact this
theorem Backward_ok (l:List En) (R:List As) (G:Gh) (hs:Sep R G) (σ:List Hp):CallT Tryz.prog f_zz3 ([.list (l.map eE)].map .d) σ G fun r σ' G'=>σ'=σ∧∃ b,r=.d (.clo f_zz2 [.gp b 0])∧Sep (CellA b [.list (l.map eE)]::R) G':=by
 refine callT_of_W fol zz3_cp ?_
 refine goS trivial ?_
 refine goR trivial ?_
 refine wNew_mk fun b hb=>?_
 refine goS trivial ?_
 refine goR trivial ?_
 exact Fin.eq rfl ⟨rfl,b,rfl,Sep.new hb hs⟩
abbrev cE (x:En):List D:=[.str x.name,eI x.ver,eI x.obj,eI x.last]
abbrev lpFind (v:D) (b4 b5 b6 b7:Nat):List (Nat × AV):=[(19,.d v),(4,.d (.gp b4 0)),(5,.d (.gp b5 0)),(6,.d (.gp b6 0)),(7,.d (.gp b7 0))]
theorem Find_ok (c:Ct) (name:Str) (ver:Int) (hs:smallC c):CallP Tryz.prog f_zz83 [eC c,.str name,eI ver] (·=.tup [eE (findC c name ver).1,eI (findC c name ver).2]):=by
 refine CallP.of_deep (callT_of_W fol zz83_cp ?_)
 have s1:=hs.1
 refine goS trivial ?_
 refine goR trivial ?_
 refine wNew_mk fun b4 hb4=>?_
 have q4:=Sep.new (cs:=[.str name]) hb4 Sep.nil
 refine goS trivial ?_
 refine wNew_mk fun b5 hb5=>?_
 have q5:=Sep.new (cs:=[eI ver]) hb5 q4
 refine goS trivial ?_
 refine wNew_mk fun b6 hb6=>?_
 have q6:=Sep.new (cs:=[.str [],eI 0,eI 0,eI 0]) hb6 q5
 refine goS trivial ?_
 refine wNew_mk fun b7 hb7=>?_
 have q7:=Sep.new (cs:=[eI 0]) hb7 q6
 refine goS trivial ?_
 revert q7
 generalize (((noGh.set b4 _).set b5 _).set b6 _).set b7 _=G1
 intro q7
 have c7:=q7.get
 have c6:=q7.tail.get
 have h76:=sep_ne q7
 by_cases h0:chk c=0
 case neg =>
  (repeat' (first|(with_reducible first|refine W.seq ?_|refine W.block ?_|refine W.scope ?_)|((first|(with_reducible first|refine W.reg ?_|refine W.skip ?_|refine W.exit ?_|refine W.ret ?_|refine W.ifc ?_)|(apply wC_P (Check_ok c hs); (focus (simp -dsimp (disch:=first|omega|(simp only [go_sem]; omega)) only [go_sem,seval,Nat.reduceEqDiff,Nat.reduceLeDiff]<;>rfl)); rintro _ rfl)|((with_reducible first|refine wG_decE (fun _ hG=>?_) (fun _ hG=>?_)|refine wG_decFE (fun _ hG=>?_) (fun _ hG=>?_))<;>(try simp -dsimp only [hG,decide_true,decide_false,not_true_eq_false,not_false_eq_true])<;>clear hG))<;>(try simp -dsimp (disch:=first|omega|(simp only [go_sem]; omega)) only [go_sem,seval,Nat.reduceEqDiff,Nat.reduceLeDiff,h0,c6,c7,upd_off h76,upd_off h76.symm]))|simp -dsimp (disch:=first|omega|(simp only [go_sem]; omega)) only [go_sem,seval,Nat.reduceEqDiff,Nat.reduceLeDiff,h0,c6,c7,upd_off h76,upd_off h76.symm]))
  (apply Fin.eq; (focus (simp -dsimp (disch:=first|omega|(simp only [go_sem]; omega)) only [go_sem,seval,Nat.reduceEqDiff,Nat.reduceLeDiff,c6,c7,upd_off h76,upd_off h76.symm]<;>rfl)))
  exact ⟨rfl,_,.refl _,by rw [findC,if_pos h0]; rfl⟩
 (refine goX1 h0 (Check_ok c hs) ?_; (repeat' (with_reducible apply Br.mk<;>intro _)))
 rw [findC_eq h0]
 apply wC_g (Backward_ok c.ents _ G1 q7 _)
 focus (simp -dsimp (disch:=first|omega|(simp only [go_sem]; omega)) only [go_sem,seval,Nat.reduceEqDiff,Nat.reduceLeDiff]<;>fail)
 focus (simp -dsimp (disch:=first|omega|(simp only [go_sem]; omega)) only [go_sem,seval,Nat.reduceEqDiff,Nat.reduceLeDiff]<;>rfl)
 rintro _ G2 ⟨b,rfl,q⟩
 clear hb4 hb5 hb6 hb7 q4 q5 q6 q7 c6 c7
 refine goS trivial ?_
 refine goR trivial ?_
 refine W.weaken (st_le (l':=lpFind (.clo f_zz2 [.gp b 0]) b4 b5 b6 b7) (by (simp -dsimp (disch:=first|omega|(simp only [go_sem]; omega)) only [go_sem,seval,Nat.reduceEqDiff,Nat.reduceLeDiff]<;>((repeat' apply And.intro)<;>first|exact VLe.refl _|(apply vle_int; omega)|(apply vle_int; simp; done)|exact VLe.own _ _|exact VLe.nilown _|exact VLe.norm _)))) ?_
 refine W.rangeF (caps:=[.gp b 0]) (called_of_compile zz2_cp) (by simp -dsimp (disch:=first|omega|(simp only [go_sem]; omega)) only [go_sem,seval,Nat.reduceEqDiff,Nat.reduceLeDiff]) fun lo hlo=>?_
 have q0:=Sep.newM (o:=.loop Tryz.prog (E (lpFind (.clo f_zz2 [.gp b 0]) b4 b5 b6 b7)) [20,21] catalog_Find_y0a catalog_Find_y0b) hlo q
 refine (backward1_ok c.ents (by omega) b lo (fun k G=>Sep [ObjA lo (.loop Tryz.prog (E (lpFind (.clo f_zz2 [.gp b 0]) b4 b5 b6 b7)) [20,21] catalog_Find_y0a catalog_Find_y0b),CellA b [.list (c.ents.map eE)],CellA b7 [eI 0],CellA b6 [.str [],eI 0,eI 0,eI 0],CellA b5 [eI ver],CellA b4 [.str name]] G∧∀ j (h:j < c.ents.length),k≤j→¬ pFind name ver c.ents[j]=true)
  (fun G=>∃ i,∃ h:i < c.ents.length,pFind name ver c.ents[i]=true∧(∀ j (h:j < c.ents.length),i < j→¬ pFind name ver c.ents[j]=true)∧Sep [ObjA lo (.done .ret),CellA b7 [eI 0],CellA b6 (cE c.ents[i]),CellA b5 [eI ver],CellA b4 [.str name]] G)
  (fun k G h=>h.1.tail.get) ?_ _ _ ⟨q0,fun j h h'=>by omega⟩).mono ?_
 · rintro i hi G σ ⟨hq,hn⟩
   have hm:=hq.getM
   refine callY_of_W fol hm rfl (argEnv2_le _ [(4,.gp b4 0),(5,.gp b5 0),(6,.gp b6 0),(7,.gp b7 0)] 20 21 (eI i) (eE c.ents[i]) (by simp [E])) ?_
   have hd:=sep_dropM hq
   revert hd
   have hml:(G.setM lo none).m lo=none:=by simp
   revert hml
   generalize G.setM lo none=G3
   intro hml hd
   refine goS trivial ?_
   refine goR trivial ?_
   refine wNew_mk fun b10 hb10=>?_
   have hd:=Sep.new (cs:=cE c.ents[i]) hb10 hd
   have hml:(G3.set b10 (some (cE c.ents[i]))).m lo=none:=hml
   refine goS trivial ?_
   revert hd hml
   generalize G3.set b10 _=G4
   intro hd hml
   have c10:=hd.get
   have c7:=hd.tail.tail.get
   have c6:=hd.tail.tail.tail.get
   have c5:=hd.tail.tail.tail.tail.get
   have c4:=hd.tail.tail.tail.tail.tail.get
   (repeat' (first|(with_reducible first|refine W.seq ?_|refine W.block ?_|refine W.scope ?_)|((first|(with_reducible first|refine W.reg ?_|refine W.skip ?_|refine W.exit ?_|refine W.ret ?_|refine W.ifc ?_)|((with_reducible first|refine wG_decE (fun _ hG=>?_) (fun _ hG=>?_)|refine wG_decFE (fun _ hG=>?_) (fun _ hG=>?_))<;>(try simp -dsimp only [hG,decide_true,decide_false,not_true_eq_false,not_false_eq_true])<;>clear hG))<;>(try simp -dsimp (disch:=first|omega|(simp only [go_sem]; omega)) only [go_sem,seval,Nat.reduceEqDiff,Nat.reduceLeDiff,c10,c4,c5,c6,c7,upd_off h76,upd_off h76.symm]))|simp -dsimp (disch:=first|omega|(simp only [go_sem]; omega)) only [go_sem,seval,Nat.reduceEqDiff,Nat.reduceLeDiff,c10,c4,c5,c6,c7,upd_off h76,upd_off h76.symm]))
   all_goals
    have hnn:∀ j (h:j < c.ents.length),i < j→¬ pFind name ver c.ents[j]=true:=fun j h hlt=>hn j h hlt
    first
     | (have hp:pFind name ver c.ents[i]=true:=decide_eq_true (by simp_all)
        refine ⟨rfl,.inr ⟨rfl,i,hi,hp,hnn,?_⟩⟩
        exact Sep.newM hml (Sep.set (Sep.swap (Sep.set (Sep.swap hd.tail.tail)))))
     | (have hp:¬ pFind name ver c.ents[i]=true:=fun h=>by have:=of_decide_eq_true h; simp_all
        refine ⟨rfl,.inl ⟨rfl,Sep.newM hml hd.tail,fun j h hij=>?_⟩⟩
        by_cases e:j=i
        · subst e; exact hp
        · exact hnn j h (by omega))
 · rintro r lv G' ⟨rfl,⟨hq,hn⟩|⟨i,hi,hp,hn,hq⟩⟩
   · refine ⟨rfl,.inl ⟨hq.getM,?_⟩⟩
     have hd:=sep_dropM hq
     revert hd
     generalize G'.setM lo none=G3
     intro hd
     have c7:=hd.tail.get
     have c6:=hd.tail.tail.get
     refine goS trivial ?_
     (repeat (first|(with_reducible first|refine W.seq ?_|refine W.block ?_|refine W.scope ?_)|((with_reducible first|refine W.reg ?_|refine W.skip ?_|refine W.exit ?_|refine W.ret ?_|refine W.ifc ?_); simp -dsimp (disch:=first|omega|(simp only [go_sem]; omega)) only [go_sem,seval,Nat.reduceEqDiff,Nat.reduceLeDiff,c6,c7,upd_off h76,upd_off h76.symm])))
     (apply Fin.eq; (focus (simp -dsimp (disch:=first|omega|(simp only [go_sem]; omega)) only [go_sem,seval,Nat.reduceEqDiff,Nat.reduceLeDiff,c6,c7,upd_off h76,upd_off h76.symm]<;>rfl)))
     refine ⟨rfl,_,.refl _,?_⟩
     have:c.ents.reverse.find? (pFind name ver)=none:=by
      rw [List.find?_eq_none]
      intro x hx
      obtain ⟨j,hj,rfl⟩:=List.getElem_of_mem (List.mem_reverse.1 hx)
      exact hn j hj (Nat.zero_le _)
     rw [this]; rfl
   · refine ⟨rfl,.inr ⟨.ret,hq.getM,by simp,?_⟩⟩
     have hd:=sep_dropM hq
     revert hd
     generalize G'.setM lo none=G3
     intro hd
     have c7:=hd.get
     have c6:=hd.tail.get
     refine goS trivial ?_
     (apply Fin.eq; (focus (simp -dsimp (disch:=first|omega|(simp only [go_sem]; omega)) only [go_sem,seval,Nat.reduceEqDiff,Nat.reduceLeDiff,c6,c7]<;>rfl)))
     refine ⟨rfl,_,.refl _,?_⟩
     have:c.ents.reverse.find? (pFind name ver)=some c.ents[i]:=by
      have e:c.ents=c.ents.take i ++ c.ents[i]::c.ents.drop (i + 1):=by rw [← List.drop_eq_getElem_cons hi,List.take_append_drop]
      have h2:(c.ents.drop (i + 1)).reverse.find? (pFind name ver)=none:=by
       rw [List.find?_eq_none]
       intro x hx
       obtain ⟨j,hj,rfl⟩:=List.getElem_of_mem (List.mem_reverse.1 hx)
       rw [List.length_drop] at hj
       rw [List.getElem_drop]
       exact hn _ (by omega) (by omega)
      have h3:c.ents.reverse=(c.ents.drop (i + 1)).reverse ++ c.ents[i]::(c.ents.take i).reverse:=by
       conv=>lhs; rw [e]
       rw [List.reverse_append,List.reverse_cons,List.append_assoc]; rfl
      rw [h3,List.find?_append,h2,List.find?_cons,hp]; rfl
     rw [this]; rfl
end Go.Proofs.YtgoleoihpgmcbaaGreat
/-
 Layer 39 (catalog),continued: sums of strings.
 Conditions: of each contract as it says.
-/
namespace Go.Proofs.YtgoleoihpgmcbaaGreat
open Go Go.E2 C39
set_option linter.unusedSimpArgs false
set_option maxHeartbeats 1000000
theorem xorB (a b:UInt8):binD .xor (.int .u8 a.toNat) (.int .u8 b.toNat)=some (.int .u8 ((a ^^^ b).toNat:Nat)):=by
 have ha:=a.toNat_lt
 have hb:=b.toNat_lt
 rw [xor_u8 (by omega) (by omega) (by omega) (by omega),Int.toNat_natCast,Int.toNat_natCast,UInt8.toNat_xor]
theorem Sum1_ok (a b:Str) (hl:a.length=b.length) (k:Nat) (hk:k < (sumS a b).length) (ba bb:Nat) (G:Gh) (ha:G.c ba=some [.str a]) (hb:G.c bb=some [.str b]):CallQ Tryz.prog f_zz99 ([eI k] ++ [.gp bb 0,.gp ba 0]) G (·=.d (.int .u8 ((sumS a b)[k]).toNat)):=by
 intro σ
 have h1:k < a.length:=by rw [← sumS_len hl]; exact hk
 have h2:k < b.length:=by omega
 refine callT_of_W fol zz99_cp ?_
 refine goS trivial ?_
 (refine goX (nn ha (nn hb @Int.toNat_natCast)) ?_; (repeat' (with_reducible apply Br.mk<;>intro _)))
 · have hx:=xorB a[k] b[k]
   refine goS hx ?_
   refine goR trivial ?_
   exact Fin.eq rfl ⟨rfl,rfl,by rw [sumS_get hk h1 h2]⟩
 · exfalso; omega
def rowB (s:Str) (k:Nat):List D:=(s.take k).map eB ++ List.replicate (s.length - k) (.int .u8 0)
theorem rowB_len {s:Str} {k:Nat} (h:k≤s.length):(rowB s k).length=s.length:=by simp [rowB]; omega
theorem rowB_set {s:Str} {k:Nat} (h:k < s.length):over (rowB s k) [eB s[k]] k=rowB s (k + 1):=by
 unfold rowB
 have e:List.replicate (s.length - k) (D.int .u8 0)=.int .u8 0::List.replicate (s.length - (k + 1)) (.int .u8 0):=by
  rw [show s.length - k=(s.length - (k + 1)) + 1 by omega,List.replicate_succ]
 have hl:((s.take k).map eB).length=k:=by rw [List.length_map,List.length_take]; omega
 have:=over_at (pre:=(s.take k).map eB) (mid:=[D.int .u8 0]) (post:=List.replicate (s.length - (k + 1)) (.int .u8 0)) (ys:=[eB s[k]]) (n:=k) hl rfl
 rw [e]
 rw [List.append_assoc] at this
 rw [show ((s.take k).map eB) ++ (D.int .u8 0::List.replicate (s.length - (k + 1)) (.int .u8 0))=(s.take k).map eB ++ ([D.int .u8 0] ++ List.replicate (s.length - (k + 1)) (.int .u8 0)) from rfl,this,List.take_succ_eq_append_getElem h,List.map_append]
 simp
theorem rep_one (n:Nat) (x:D):rep n [x]=List.replicate n x:=by
 induction n with
 | zero=>rfl
 | succ n ih =>
  have:rep (n + 1) [x]=x::rep n [x]:=by simp [rep,List.replicate_succ]
  rw [this,ih,List.replicate_succ]
theorem build_ok (s:Str) (hl:s.length≤100000) (g:FuncId) (ds:List D) (G:Gh) (hc:∀ k (h:k < s.length) G',GSub G G'→CallQ Tryz.prog g ([eI k] ++ ds) G' (·=.d (.int .u8 s[k].toNat))) (σ:List Hp) :
 CallT Tryz.prog f_zz100 ([eI s.length,.clo g ds].map .d) σ G fun r σ' _=>σ'=σ∧r=.d (.str s):=by
 refine callT_of_W fol zz100_cp ?_
 have hm:=mostBytes_eq
 refine goS trivial ?_
 refine goR trivial ?_
 refine wP_mk (by omega) ?_
 refine wNew_mk fun b hb=>?_
 have h0:rep (s.length:Int).toNat [D.int .u8 0]=rowB s 0:=by rw [Int.toNat_natCast,rep_one]; rfl
 refine goS trivial ?_
 refine goR trivial ?_
 rw [show rep s.length [D.int .u8 0]=rowB s 0 by rw [rep_one]; rfl]
 refine W.loop (fun m st=>∃ k b6,k≤s.length∧m=s.length - k ∧
  st=(E [(1,.d (.clo g ds)),(5,.d (.gs b 0 s.length s.length)),(6,b6),(9,.d (eI s.length)),(10,.d (eI k))],HB [],σ,G.set b (some (rowB s k))))
  ⟨_,_,stle,0,_,by omega,rfl,rfl⟩ ?_
 rintro m st ⟨k,b6,hk,rfl,rfl⟩
 refine goR trivial ?_
 refine wG_dec (fun h1=>?_) (fun h1=>?_)
 · have hk':k < s.length:=by omega
   have hlen:=rowB_len (s:=s) (k:=k) hk
   refine goR trivial ?_
   refine wC_Qc (hc k hk' _ (GSub.new hb _)) (by simp -dsimp (disch:=first|omega|(simp only [go_sem]; omega)) only [go_sem,seval,Nat.reduceEqDiff,Nat.reduceLeDiff]) (by simp -dsimp (disch:=first|omega|(simp only [go_sem]; omega)) only [go_sem,seval,Nat.reduceEqDiff,Nat.reduceLeDiff]<;>rfl) ?_
   refine goS trivial ?_
   (repeat (first|(with_reducible first|refine W.seq ?_|refine W.block ?_|refine W.scope ?_)|((with_reducible first|refine W.reg ?_|refine W.skip ?_|refine W.exit ?_|refine W.ret ?_|refine W.ifc ?_); simp -dsimp (disch:=first|omega|(simp only [go_sem]; omega)) only [go_sem,seval,Nat.reduceEqDiff,Nat.reduceLeDiff,gset_same,hlen,Int.toNat_natCast])))
   refine wP_mk (by omega) ?_
   have hset:List.take (k * 1) (rowB s k) ++ [D.int .u8 s[k].toNat] ++ List.drop (k * 1 + 1) (rowB s k)=rowB s (k + 1):=by rw [Nat.mul_one]; exact rowB_set hk'
   refine goS trivial ?_
   refine goR trivial ?_
   rw [hset]
   refine ⟨_,_,?_,stle,k + 1,_,hk',rfl,rfl⟩
   omega
 · obtain rfl:k=s.length:=by omega
   have hv:viewC (G.set b (some (rowB s s.length))) 1 (.gs b 0 s.length s.length)=some (s.length,rowB s s.length):=by
    have hlen:=rowB_len (s:=s) (k:=s.length) (Nat.le_refl _)
    simp [viewC,hlen,List.take_of_length_le]
   have hby:bytesD (rowB s s.length)=some s:=by
    have:rowB s s.length=s.map eB:=by simp [rowB]
    rw [this,bytesD_map]
   refine goR trivial ?_
   refine wGd_mk (gdD_b2s hv hby) ?_
   refine goS trivial ?_
   refine goR trivial ?_
   exact Fin.eq rfl ⟨rfl,rfl⟩
theorem Sum_ok (a b:Str) (hl:a.length=b.length) (hm:a.length≤100000):CallP Tryz.prog f_zz102 [.str a,.str b] (·=.d (.str (sumS a b))):=by
 refine CallP.of_deep (callT_of_W fol zz102_cp ?_)
 refine goS trivial ?_
 refine goR trivial ?_
 refine wNew_mk fun b2 hb2=>?_
 have q2:=Sep.new (cs:=[.str a]) hb2 Sep.nil
 refine goS trivial ?_
 refine wNew_mk fun b3 hb3=>?_
 have q3:=Sep.new (cs:=[.str b]) hb3 q2
 refine goS trivial ?_
 revert q3
 generalize (noGh.set b2 _).set b3 _=G1
 intro q3
 have c3:=q3.get
 have c2:=q3.tail.get
 have hlen:=sumS_len hl
 (refine goX (nn c2 c3) ?_; (repeat' (with_reducible apply Br.mk<;>intro _)))
 · exfalso; omega
 have hb:=build_ok (sumS a b) (by omega) f_zz99 [.gp b3 0,.gp b2 0] G1 (fun k hk G' hs=>Sum1_ok a b hl k hk b2 b3 G' (hs.c _ _ c2) (hs.c _ _ c3))
 rw [hlen] at hb
 apply wC_n (Q:=fun r _=>r=.d (.str (sumS a b))) hb
 focus (simp -dsimp (disch:=first|omega|(simp only [go_sem]; omega)) only [go_sem,seval,Nat.reduceEqDiff,Nat.reduceLeDiff]<;>decide)
 focus (simp -dsimp (disch:=first|omega|(simp only [go_sem]; omega)) only [go_sem,seval,Nat.reduceEqDiff,Nat.reduceLeDiff]<;>rfl)
 focus (simp -dsimp (disch:=first|omega|(simp only [go_sem]; omega)) only [go_sem,seval,Nat.reduceEqDiff,Nat.reduceLeDiff]<;>rfl)
 rintro _ G2 rfl
 refine goS trivial ?_
 refine goR trivial ?_
 exact Fin.eq rfl ⟨rfl,_,.refl _,rfl⟩
def eN (l:Ln):D:=.agg [.int .i64 l.ver,.int .i64 l.obj,.int .i64 l.last,.str l.cover]
attribute [go_sem] eN
@[go_sem] theorem eN_all (l:List Ln):(l.map eN).all (sizeOk 4)=true:=by simp [List.all_map,Function.comp_def,eN,sizeOk,D.cells,D.one]
@[go_sem] theorem eStr_all (l:List Str):(l.map D.str).all (sizeOk 1)=true:=by simp [List.all_map,Function.comp_def,sizeOk,D.cells,D.one]
theorem exp_ok {c:Ct} {pads:List Str} (h0:chk c=0) (hl:pads.length=c.ents.length) (h:∀ k (h:k < c.ents.length) (h2:k < pads.length),pads[k].length=c.ents[k].name.length):exportC c pads=(List.zipWith lineOf c.ents pads,0):=by
 rw [exportC,if_neg (fun h=>h h0),if_neg (fun h=>h hl),if_pos h]
theorem exp_no {c:Ct} {pads:List Str} (h0:chk c=0) (hl:pads.length=c.ents.length) (h:¬ ∀ k (h:k < c.ents.length) (h2:k < pads.length),pads[k].length=c.ents[k].name.length):exportC c pads=([],1):=by
 rw [exportC,if_neg (fun h=>h h0),if_neg (fun h=>h hl),if_neg h]
theorem zip_succ {α β γ:Type} (f:α→β→γ) {a:List α} {b:List β} {k:Nat} (ha:k < a.length) (hb:k < b.length):(List.zipWith f a b).take (k + 1)=(List.zipWith f a b).take k ++ [f a[k] b[k]]:=by
 rw [List.take_succ_eq_append_getElem (by simp; omega),List.getElem_zipWith]
theorem Export_ok (c:Ct) (pads:List Str) (hs:smallC c) (hp:pads.length≤1000) (hpl:∀ s ∈ pads,s.length≤100000):CallP Tryz.prog f_zz62 [eC c,.list (pads.map .str)] (·=.tup [.agg [.list ((exportC c pads).1.map eN)],eI (exportC c pads).2]):=by
 refine CallP.of_deep (callT_of_W fol zz62_cp ?_)
 have s1:=hs.1
 have hm:=mostBytes_eq
 refine goS trivial ?_
 by_cases h0:chk c=0
 case neg =>
  (refine goX1 h0 (Check_ok c hs) ?_; (repeat' (with_reducible apply Br.mk<;>intro _)))
  exact Fin.eq rfl ⟨rfl,_,.tup _ _ (DRs.cons (DRs.agg (DRs.cons .nil DRs.nil)) (DRs.cons (.refl _) DRs.nil)),by rw [exportC,if_pos h0]; rfl⟩
 by_cases hl:pads.length=c.ents.length
 case neg =>
  (refine goX1 h0 (Check_ok c hs) ?_; (repeat' (with_reducible apply Br.mk<;>intro _)))
  all_goals first|(exfalso; omega)|exact Fin.eq rfl ⟨rfl,_,.tup _ _ (DRs.cons (DRs.agg (DRs.cons .nil DRs.nil)) (DRs.cons (.refl _) DRs.nil)),by rw [exportC,if_neg (fun h=>h h0),if_pos hl]; rfl⟩
 have hl2:(↑pads.length:Int)=↑c.ents.length:=by omega
 (refine goX1 (nn h0 hl2) (Check_ok c hs) ?_; (repeat' (with_reducible apply Br.mk<;>intro _)))
 refine W.loop (fun m st=>∃ k x G b9,k≤c.ents.length∧m=c.ents.length - k∧(∀ j (h:j < c.ents.length) (h2:j < pads.length),j < k→pads[j].length=c.ents[j].name.length)∧GV 4 G x (((List.zipWith lineOf c.ents pads).take k).map eN) ∧
  st=(E [(1,.d (.list (pads.map .str))),(4,.ptr 0 4 1 0),(7,.ptr 0 7 1 0),(24,.d (.list (c.ents.map eE))),(25,.d (eI c.ents.length)),(26,.d (eI k))],HB [(2,⟨1,some (cC c)⟩),(4,⟨1,some [.nilS]⟩),(7,⟨1,some [x]⟩),(9,b9)],[],G))
  ⟨_,_,stleB (HB_pad [(2,_),(4,_),(7,_)] [9] rfl).symm,0,.nilS,noGh,_,by omega,rfl,fun _ _ _ h=>by omega,by rw [List.take_zero]; exact .nil,rfl⟩ ?_
 rintro m st ⟨k,x,G,b9,hk,rfl,hlo,hx,rfl⟩
 refine goR trivial ?_
 refine wG_dec (fun h1=>?_) (fun h1=>?_)
 · have hk':k < c.ents.length:=by omega
   have hk2:k < pads.length:=by omega
   have hpk:=hpl _ (List.getElem_mem hk2)
   have ht:=zip_succ lineOf hk' hk2
   by_cases he:pads[k].length=c.ents[k].name.length
   case neg =>
    have hno:¬ ∀ k (h:k < c.ents.length) (h2:k < pads.length),pads[k].length=c.ents[k].name.length:=fun h=>he (h k hk' hk2)
    rcases hx.shape with rfl|⟨b0,n0,c0,rfl⟩
    all_goals
     (refine goX trivial ?_; (repeat' (with_reducible apply Br.mk<;>intro _)))
     all_goals first|(exfalso; omega)|exact Fin.eq rfl ⟨rfl,_,.tup _ _ (DRs.cons (DRs.agg (DRs.cons .nil DRs.nil)) (DRs.cons (.refl _) DRs.nil)),by rw [exp_no h0 hl hno]; rfl⟩
   have he2:(↑pads[k].length:Int)=↑c.ents[k].name.length:=by omega
   have hsum:=Sum_ok c.ents[k].name pads[k] he.symm (by omega)
   rcases hx.shape with rfl|⟨b0,n0,c0,rfl⟩
   all_goals
    (refine goX1 he2 (hsum) ?_; (repeat' (with_reducible apply Br.mk<;>intro _)))
    refine appV_GV2 hx (viewC_list (es:=[eN (lineOf c.ents[k] pads[k])]) rfl) rfl rfl rfl (by rw [List.length_map,List.length_take,mostBytes_eq]; show (_ + 1) * 40≤_; omega) fun y' G2 hg hto=>?_
    have hg:GV 4 G2 y' (((List.zipWith lineOf c.ents pads).take (k + 1)).map eN):=by rw [ht,List.map_append]; exact hg
    rcases hg.shape with rfl|⟨b',n',cap',rfl⟩
    all_goals
     refine goS trivial ?_
     refine goR trivial ?_
     refine ⟨_,_,?_,stleB rfl,k + 1,_,G2,_,hk',rfl,fun j h h2 hlt=>?_,hg,rfl⟩
     · omega
     · by_cases e:j=k
       · subst e; exact he
       · exact hlo j h h2 (by omega)
 · obtain rfl:k=c.ents.length:=by omega
   have hz:(List.zipWith lineOf c.ents pads).length=c.ents.length:=by simp; omega
   rw [List.take_of_length_le (by omega)] at hx
   rw [exp_ok h0 hl (fun k h h2=>hlo k h h2 h)]
   rcases hx.shape with rfl|⟨b',n',cap',rfl⟩
   all_goals
    refine goR trivial ?_
    exact Fin.eq rfl ⟨rfl,_,.tup _ _ (DRs.cons (DRs.agg (DRs.cons hx.dr DRs.nil)) (DRs.cons (.refl _) DRs.nil)),rfl⟩
end Go.Proofs.YtgoleoihpgmcbaaGreat
