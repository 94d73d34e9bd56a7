/-
 Layer 40 (txn): the writes that are prepared.
 Conditions: of each contract as it says.
-/
import Derived.Test.YtlejjdbmmdghmaaX8
import Derived.Test.YtlejjdbmmdghmaaF22s
set_option linter.unusedSimpArgs false
namespace Go.Proofs.Ytlejjdbmmdghmaa
open Go Go.E2 C22 C40
set_option maxHeartbeats 1000000
theorem zpr {l l':List Int} (h:l.Perm l'):zck l=zck l':=by
 have s:∀ l:List Int,(zck l).Pairwise (·≤·):=fun l=>by
  have:=List.pairwise_mergeSort (le:=fun x y:Int=>decide (x≤y)) (by intro a b c;simp;omega) (by intro a b;simp;omega) l
  exact this.imp (by simp)
 have p:∀ l:List Int,(zck l).Perm l:=fun l=>List.mergeSort_perm _ _
 exact (((p l).trans h).trans (p l').symm).eq_of_pairwise (le:=(·≤·)) (fun a b _ _ h1 h2=>by omega) (s l) (s l')
theorem zeq {α:Type} [BEq α] [LawfulBEq α]:∀ {l l':List α},l.Nodup→l ⊆ l'→l.length≤l'.length
 | [],_,_,_=>by simp
 | a::l,l',hn,hs=>by
   rw [List.nodup_cons] at hn
   have ha:a∈l':=hs List.mem_cons_self
   have ih:=zeq (l':=l'.erase a) hn.2 fun x hx=>(List.mem_erase_of_ne (fun (e:x=a)=>hn.1 (by rw [← e];exact hx))).2 (hs (List.mem_cons_of_mem _ hx))
   rw [List.length_erase_of_mem ha] at ih
   have:=List.length_pos_of_mem ha
   simp only [List.length_cons]
   omega
def zer (ws:List (Int×Wr)):List Int:=zck (ws.map (·.1))
theorem zh8 (sb n:Nat) (m:Int) (c:List Str) (ws:List (Int×Wr)) (hc:Shp n c) (hm:m≤500000000) (hw:ws.length≤1000) :
 zy Try.prog f_zz23 [.gp sb 0] [zbq sb n m c ws] (fun r post=>∃ x,r=.tup [x,.int .i64 0]∧post=[zbq sb n m c ws,SlA 1 x ((zer ws).map eI)]):=by
 refine zf fol zz23_cp fun R G σ hs=>?_
 have hget:=zkb sb n m c ws (by omega) hc.n16 hc.len (fun b hb=>by have:=hc.fit b hb;omega) 0
 have he0:=hc.get (k:=0) (by omega) (by have:=hc.n1;omega)
 refine goS trivial ?_
 refine goR trivial ?_
 (refine goM (hget) (hs) ?_)
 rintro _ _ G1 ⟨rfl,rfl⟩ h1
 rw [he0]
 obtain ⟨q,mr,h2⟩:=Sep.sit h1
 have h2:Sep (SiA sb q mr n::zaw q m c::MwA mr ws::R) G1:=h2
 have hg:=Sep.get (b:=sb) (cs:=[eSt q,.int .i64 n,.mref mr]) h2
 refine goS trivial ?_
 (refine goX hg ?_;(repeat' (with_reducible apply Br.mk<;>intro _)))
 have h3:Sep (MwA mr ws::SiA sb q mr n::zaw q m c::R) G1:=h2.perm pp
 refine zlx (Sep.map h3) fun it X hit hr=>?_
 have h4:=Sep.rngNew h3 hit hr
 generalize G1.setM it (some X)=G2 at h4 ⊢
 refine goS trivial ?_
 refine goR trivial ?_
 refine W.loop (fun z st=>∃ (sn:List Int) (x:D) (b4:Blk) (G:Gh),z=(ws.filter fun p=>decide (p.1 ∉ sn)).length∧sn.Nodup∧(∀ i∈sn,i∈ws.map (·.1)) ∧
  Sep (SlA 1 x (sn.map eI)::zs1 [.i] eI eWr mr it ws sn::SiA sb q mr n::zaw q m c::R) G ∧
  st=(E [(6,.d x),(20,.d (.gp it 0))],HB [(4,b4)],σ,G))
  ⟨_,_,zt rfl,[],.nilS,_,G2,rfl,by simp,by simp,Sep.slNil h4,rfl⟩ ?_
 rintro z st ⟨sn,x,b4,G3,rfl,hsn,hsk,h5,rfl⟩
 have hnd:(ws.map (·.1)).Nodup:=(Sep.rngl h5.tail).nodup
 have hlen:=zeq hsn hsk
 rw [List.length_map] at hlen
 have hv:=Sep.gv h5
 refine goR trivial ?_
 refine zly (Sep.rngl h5.tail) (fun hall=>?_) (fun a v X' hav hns hr' hent=>?_)
 · have hperm:sn.Perm (ws.map (·.1)):=(List.perm_ext_iff_of_nodup hsn hnd).2 fun i=>⟨fun h=>hsk i h,fun h=>by
    obtain ⟨p,hp,rfl⟩:=List.mem_map.1 h
    exact hall p hp⟩
   have hso:zck sn=zer ws:=zpr hperm
   have h6:Sep (MwA mr ws::SlA 1 x (sn.map eI)::SiA sb q mr n::zaw q m c::R) G3:=(Sep.rngEnd h5.swap)
   have h7:Sep (SlA 1 x (sn.map eI)::SiA sb q mr n::zaw q m c::MwA mr ws::R) G3:=h6.perm pp
   refine goS trivial ?_
   refine goR trivial ?_
   (refine goM (z00 x sn (by omega)) (h7) ?_)
   rintro _ _ G4 rfl h8
   rw [hso] at h8
   have h8:Sep (SlA 1 x ((zer ws).map eI)::SiA sb q mr n::zaw q m c::MwA mr ws::R) G4:=h8
   have h9:Sep (SiA sb q mr n::zaw q m c::MwA mr ws::SlA 1 x ((zer ws).map eI)::R) G4:=h8.perm pp
   refine goS trivial ?_
   (refine goX trivial ?_;(repeat' (with_reducible apply Br.mk<;>intro _)))
   exact Fin.eq rfl ⟨rfl,_,⟨x,rfl,rfl⟩,Sep.of_sit h9⟩
 · have h6:Sep (SlA 1 x (sn.map eI)::zs1 [.i] eI eWr mr it ws (sn++[a])::SiA sb q mr n::zaw q m c::R) (G3.setM it (some X')):=(Sep.rngSet (.inr rfl) h5.swap hr').swap
   generalize G3.setM it (some X')=G4 at h6 hent ⊢
   have hv2:=Sep.gv h6
   have hal:a∈ws.map (·.1):=List.mem_map.2 ⟨_,hav,rfl⟩
   have hsn':(sn++[a]).Nodup:=by
    rw [List.nodup_append]
    exact ⟨hsn,by simp,fun x hx y hy=>by rw [List.mem_singleton] at hy;subst hy;exact fun e=>hns (e▸hx)⟩
   refine goS trivial ?_
   refine goR hent ?_
   refine zg4 (es2:=[eI a]) (m:=1) hv2 (zhs (es:=[eI a]) rfl) rfl rfl rfl (by rw [List.length_map,za0];omega) fun x' G5 hv3 hto=>?_
   refine goS trivial ?_
   refine goR trivial ?_
   have h7:=h6.grow hto (by rw [← List.map_singleton (f:=eI),← List.map_append] at hv3;exact hv3)
   refine ⟨_,_,zkf hav hns,zt rfl,sn++[a],x',_,G5,rfl,hsn',fun i hi=>?_,h7,rfl⟩
   rcases List.mem_append.1 hi with hi|hi
   · exact hsk i hi
   · rw [List.mem_singleton] at hi;subst hi;exact hal
end Go.Proofs.Ytlejjdbmmdghmaa
