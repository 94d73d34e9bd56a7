/-
 Layer 44: the comparison of the order,walked on the machine.
 Conditions: of each contract as it says.
-/
import Derived.Test.YtclmdhceceacoaaGreatDoorProg
import Derived.WalkKit
import Derived.WalkSpells
import Derived.WalkLawsBesides
import Derived.Deep.RegionHeld3
import Derived.Deep.MidRow
import Derived.Lib.Bytealg
import Derived.Lib.BytesEntry
import Derived.Lib.UnsafeStr
import Derived.Sort.Grow
import Derived.Deep.Draws
import Derived.Deep.OwnRows
import Derived.Deep.Upon
import Derived.Shelf.Abstract
namespace Go.Proofs.YtclmdhceceacoaaGreatDoor
open Go Go.Shelf
set_option linter.unusedSimpArgs false
set_option maxHeartbeats 4000000
theorem loadBytes_at {P:Program} {w:World} {b o:Nat} {l:List UInt8} (h:∀ j x,l[j]?=some x→w.cell? ⟨b,o + j,none⟩=some (.int .u8 x.toNat)) :
 (Extern.Bytes.loadBytes ⟨b,o,none⟩ l.length .empty).run P w=.ok ⟨l.toArray⟩ w:=by
 have h1:=Go.Lib.run_loadBytesX (P:=P) w (l.map fun x=>(x.toNat:Int)) ⟨b,o,none⟩ .empty (fun j x hx=>by
  rw [List.getElem?_map] at hx
  cases hj:l[j]? with
  | none=>rw [hj] at hx; cases hx
  | some y =>
   rw [hj] at hx
   cases hx
   have e:(⟨b,o,none⟩:Addr).add j=⟨b,o + j,none⟩:=by unfold Addr.add; split<;>simp_all
   rw [e]
   exact h j y hj)
 rw [List.length_map] at h1
 rw [h1]
 have e:Go.Lib.bytesOf (l.map fun x=>(x.toNat:Int))=l:=by
  unfold Go.Lib.bytesOf
  rw [List.map_map]
  exact (List.map_congr_left fun x _=>by simp).trans (List.map_id l)
 rw [e]
 congr 1
 apply ByteArray.ext
 simp
set_option maxRecDepth 100000 in
theorem cmp44 (b1 o1 c1 b2 o2 c2:Nat) (l1 l2:List UInt8) (w:World) (h1:∀ j x,l1[j]?=some x→w.cell? ⟨b1,o1 + j,none⟩=some (.int .u8 x.toNat)) (h2:∀ j x,l2[j]?=some x→w.cell? ⟨b2,o2 + j,none⟩=some (.int .u8 x.toNat)) :
 Calls Tryz.prog 55 #[.slice (some ⟨b1,o1,none⟩) l1.length c1,.slice (some ⟨b2,o2,none⟩) l2.length c2] w fun e w'=>e=.returned (.int .i64 (Lib.compareBytes l1 l2))∧w'=w:=by
 have hx:(Extern.BytealgCompare.compare #[.slice (some ⟨b1,o1,none⟩) l1.length c1,.slice (some ⟨b2,o2,none⟩) l2.length c2]).run Tryz.prog w=.ok (.int .i64 (Lib.compareBytes l1 l2)) w:=by
  change Sem.run _ (do pure (goInt (Extern.BytealgCompare.cmp (← Extern.Bytes.bytesOf (.slice (some ⟨b1,o1,none⟩) l1.length c1)) (← Extern.Bytes.bytesOf (.slice (some ⟨b2,o2,none⟩) l2.length c2))))) w=_
  simp only [Extern.Bytes.bytesOf,Sem.run_bind,loadBytes_at h1,loadBytes_at h2,Sem.run_pure,Result.andThen]
  rw [Lib.cmp_eq]
  rfl
 go_enter Tryz.func55,Tryz.ntmps55
 go_wp2
 rw [run_callFunc_extern Tryz.func77 (by kernel_rfl) (by kernel_rfl) (by kernel_rfl) (e:=Extern.BytealgCompare.compare) (by kernel_rfl),hx]
 simp only [Result.andThen]
 rw [Oper.upon_value]
 go_wp2
 go_ret
 exact ⟨rfl,rfl⟩
def cmpI (x y:Int):Int:=if x < y then -1 else if y < x then 1 else 0
theorem nan63 (x:Int) (w:World):Calls Tryz.prog 78 #[.int .i64 x] w fun e w'=>e=.returned (.bool false)∧w'=w:=by
 go_enter Tryz.func78,Tryz.ntmps78
 go_wp2
 go_ret
 exact ⟨by simp,rfl⟩
theorem cmp45 (x y:Int) (w:World):Calls Tryz.prog 56 #[.int .i64 x,.int .i64 y] w fun e w'=>e=.returned (.int .i64 (cmpI x y))∧w'=w:=by
 go_enter Tryz.func56,Tryz.ntmps56
 go_wp2_with (go_at_call 78; refine (nan63 _ _).mono ?_; rintro e w' ⟨rfl,hw⟩; rw [hw])
 all_goals (go_ret; refine ⟨?_,rfl⟩; unfold cmpI; (repeat' split)<;>first|rfl|(exfalso; omega))
theorem or43 (b:Nat) (x y:Int) (w:World) (h0:w.cell? ⟨b,0,none⟩=some (.int .i64 x)) (h1:w.cell? ⟨b,1,none⟩=some (.int .i64 y)) :
 Calls Tryz.prog 54 #[.slice (some ⟨b,0,none⟩) 2 2] w fun e w'=>e=.returned (.int .i64 (if x=0 then y else x))∧w'=w:=by
 by_cases hx:x=0
 · subst hx
   rw [if_pos rfl]
   by_cases hy:y=0
   · subst hy
     go_enter Tryz.func54,Tryz.ntmps54
     go_wp2
     refine wp_loop_rounds 3 ?_
     rw [rounds_succ]
     go_wp2
     rw [rounds_succ]
     go_wp2
     rw [rounds_succ]
     go_wp2
     go_ret
     exact ⟨rfl,rfl⟩
   · go_enter Tryz.func54,Tryz.ntmps54
     go_wp2
     refine wp_loop_rounds 3 ?_
     rw [rounds_succ]
     go_wp2
     rw [rounds_succ]
     go_wp2
     go_ret
     exact ⟨rfl,rfl⟩
 · rw [if_neg hx]
   go_enter Tryz.func54,Tryz.ntmps54
   go_wp2
   refine wp_loop_rounds 3 ?_
   rw [rounds_succ]
   go_wp2
   go_ret
   exact ⟨rfl,rfl⟩
theorem or43n (c d:Int) (W:World):Calls Tryz.prog 54 #[.slice (some ⟨W.heap.size,0,none⟩) 2 2] (W.alloc (.cells #[.int .i64 c,.int .i64 d] 3)).drew fun e w'=>e=.returned (.int .i64 (if c=0 then d else c))∧w'=(W.alloc (.cells #[.int .i64 c,.int .i64 d] 3)).drew :=
 or43 _ c d _ ((World.cell?_alloc_new W _ _ _).trans rfl) ((World.cell?_alloc_new W _ _ _).trans rfl)
structure Gr (w w':World):Prop where
 si:w.Since w.heap.size w'
 dr:w.drawn≤w'.drawn
theorem Gr.refl (w:World):Gr w w:=⟨.refl _ _,Nat.le_refl _⟩
theorem Gr.alloc {w w':World} (h:Gr w w') (o:Obj):Gr w (w'.alloc o):=⟨h.si.alloc h.si.size o,h.dr⟩
theorem Gr.drew {w w':World} (h:Gr w w'):Gr w w'.drew:=⟨h.si.drew,Nat.le_succ_of_le h.dr⟩
theorem Gr.cells {w w':World} (h:Gr w w') {b:Nat} (hb:w.heap.size≤b):∀ (vs:List Value) (o:Nat),Gr w (w'.setCells b o vs):=by
 intro vs
 induction vs generalizing w' with
 | nil=>intro o; exact h
 | cons v vs ih=>intro o; exact ih (w':=w'.setCell ⟨b,o,none⟩ v) ⟨h.si.setCell hb v,h.dr⟩ (o + 1)
theorem Gr.grow {w w':World} (h:Gr w w'):∃ q os',w'=Go.Sort.grow (w.drewN q) os':=by
 refine ⟨w'.drawn - w.drawn,w'.heap.extract w.heap.size w'.heap.size,?_⟩
 obtain ⟨⟨h1,h2,h3,h4,h5⟩,h6⟩:=h
 obtain ⟨hp,tp,d,o,out⟩:=w
 obtain ⟨hp',tp',d',o',out'⟩:=w'
 simp only at h1 h2 h3 h4 h5 h6
 subst h1 h2 h3
 have e1:d + (d' - d)=d':=by omega
 have e2:hp ++ hp'.extract hp.size hp'.size=hp':=by
  apply Array.ext_getElem?
  intro i
  by_cases hi:i < hp.size
  · rw [Array.getElem?_append_left hi,h5 i hi]
  · rw [Array.getElem?_append_right (by omega),Array.getElem?_extract]
    have:hp.size + (i - hp.size)=i:=by omega
    rw [this]
    split
    · rfl
    · rw [Array.getElem?_eq_none (by omega)]
 unfold Go.Sort.grow World.drewN
 simp only [e1,e2]
theorem there_new (w:World) (C:Array Value) (t:TypeId):(w.alloc (.cells C t)).there w.heap.size 0 C.size:=fun j hj=>by
 have h:(w.alloc (.cells C t)).heap[w.heap.size]?=some (.cells C t):=by show (w.heap.push _)[w.heap.size]?=_; rw [Array.getElem?_push,if_pos rfl]
 have hx:C[j]?=some C[j]:=Array.getElem?_eq_getElem hj
 constructor
 · unfold World.cell?
   simp only [h]
   rw [Nat.zero_add,hx]; rfl
 · unfold World.frozen?
   simp only [h]
   simp
theorem there_alloc {w:World} {b o n:Nat} (h:w.there b o n) (ob:Obj):(w.alloc ob).there b o n:=fun j hj=>by
 obtain ⟨h1,h2⟩:=h j hj
 obtain ⟨v,hv⟩:=Option.isSome_iff_exists.1 h1
 have hlt:=World.block_lt_of_cell? _ _ hv
 have hb:(w.alloc ob).heap[b]?=w.heap[b]?:=by show (w.heap.push ob)[b]?=_; rw [Array.getElem?_push,if_neg (by have:b < w.heap.size:=hlt; omega)]
 exact ⟨by rw [World.cell?_of_block hb]; exact h1,by rw [World.frozen?_of_block hb]; exact h2⟩
theorem there_drewW {w:World} {b o n:Nat} (h:w.there b o n):w.drew.there b o n:=h
theorem anyH_gen {P:Program} {md:Region.Mode} {ops:Array Oper} {Q:Exit→Act→World→Prop} {S:World→Prop} {fuel:Nat} {listed:Array Bool} {a:Act} {W:World} {F:World→Prop} (hf:F W) (h:∀ W',F W'→wpAnyH P md ops Q S fuel listed a W'):wpAnyH P md ops Q S fuel listed a W:=h W hf
def cfO (rk:Nat→List UInt8) (x y:Nat):Int:=if Lib.compareBytes (rk x) (rk y)=0 then cmpI x y else Lib.compareBytes (rk x) (rk y)
abbrev dgV (d:List UInt8):List Value:=d.map fun b=>Value.int .u8 (b.toNat:Int)
set_option maxRecDepth 100000 in
theorem ord42 (b7 rb cap n:Nat) (rk:Nat→List UInt8) (h16:∀ a,(rk a).length=16) (w:World) (h7:w.cell? ⟨b7,0,none⟩=some (.slice (some ⟨rb,0,none⟩) n cap)) (hr:∀ a,a < n→w.rangeAt rb (a * 16) (dgV (rk a))) (x y:Nat) (hx:x < n) (hy:y < n) (hn:n < 1000000) :
 Calls Tryz.prog 53 #[.int .i64 x,.int .i64 y,.pointer (some ⟨b7,0,none⟩)] w fun e w'=>e=.returned (.int .i64 (cfO rk x y))∧∃ q os',w'=Go.Sort.grow (w.drewN q) os':=by
 have rx:=hr x hx
 have ry:=hr y hy
 have hlx:(dgV (rk x)).length=16:=by rw [List.length_map]; exact h16 x
 have hly:(dgV (rk y)).length=16:=by rw [List.length_map]; exact h16 y
 have ho1:∀ v ∈ dgV (rk x),v.oneCell'=true:=fun v hv=>by obtain ⟨b,_,rfl⟩:=List.mem_map.1 hv; rfl
 have ho2:∀ v ∈ dgV (rk y),v.oneCell'=true:=fun v hv=>by obtain ⟨b,_,rfl⟩:=List.mem_map.1 hv; rfl
 have ix1:(0:Int)≤(x:Int):=by omega
 have ix2:(x:Int) < (n:Int):=by omega
 have iy1:(0:Int)≤(y:Int):=by omega
 have iy2:(y:Int) < (n:Int):=by omega
 have hu:=Tryz.underlying27
 have hi:(Tryz.prog.info? 27).map (·.size)=some (dgV (rk x)).length:=by rw [hlx]; kernel_rfl
 have hi2:(Tryz.prog.info? 27).map (·.size)=some (dgV (rk y)).length:=by rw [hly]; kernel_rfl
 have hc1:∀ (W:World) (b:Nat),W.rangeAt b 0 (dgV (rk x))→∀ j u,(rk x)[j]?=some u→W.cell? ⟨b,0 + j,none⟩=some (.int .u8 u.toNat):=fun W b h j u hj=>h j _ (by rw [List.getElem?_map,hj]; rfl)
 have hc2:∀ (W:World) (b:Nat),W.rangeAt b 0 (dgV (rk y))→∀ j u,(rk y)[j]?=some u→W.cell? ⟨b,0 + j,none⟩=some (.int .u8 u.toNat):=fun W b h j u hj=>h j _ (by rw [List.getElem?_map,hj]; rfl)
 generalize dgV (rk x)=vx at *
 generalize dgV (rk y)=vy at *
 have e7:=World.new_ne w _ h7
 have e44:∀ args w,(callFunc 55 args).run Tryz.prog w=.ok (.enter 55 args) w:=enters_of Tryz.func55 (by kernel_rfl) rfl
 have e45:∀ args w,(callFunc 56 args).run Tryz.prog w=.ok (.enter 56 args) w:=enters_of Tryz.func56 (by kernel_rfl) rfl
 have e43:∀ args w,(callFunc 54 args).run Tryz.prog w=.ok (.enter 54 args) w:=enters_of Tryz.func54 (by kernel_rfl) rfl
 go_enter Tryz.func53,Tryz.ntmps53
 go_wp2
 refine wp_region_held_drew (S:=fun w'=>w'.cell? ⟨b7,0,none⟩=some (.slice (some ⟨rb,0,none⟩) n cap)∧w'.rangeAt rb (x * 16) vx∧w'.rangeAt rb (y * 16) vy) (by kernel_rfl) ⟨h7,rx,ry⟩ (fun hHeld=>?_)
 refine wpAnyH_take (i := 0) (oi := { dst := some 8, op := Op.load 60 (Operand.tmp 2), type := 60, pos := "draw.go:182", after := #[], guard := none }) (v := .slice (some ⟨rb, 0, none⟩) n cap) rfl (by kernel_rfl) (by kernel_rfl) (by kernel_rfl) (fun _ _ _ h => h) (Or.inl ⟨by rfl, fun w hSw => by
  obtain ⟨q1,q2,q3⟩:=hSw
  go_simp⟩) hHeld ?_
 simp only [Act.put,List.setIfInBounds_toArray,List.set_cons_zero,List.set_cons_succ]
 refine wpAnyH_take (i := 1) (oi := { dst := some 9, op := Op.move (Operand.tmp 0), type := 3, pos := "draw.go:182", after := #[], guard := none }) (v := .int .i64 x) rfl (by kernel_rfl) (by kernel_rfl) (by kernel_rfl) (fun _ _ _ h => h) (Or.inl ⟨by rfl, fun w hSw => by
  obtain ⟨q1,q2,q3⟩:=hSw
  go_simp⟩) hHeld ?_
 simp only [Act.put,List.setIfInBounds_toArray,List.set_cons_zero,List.set_cons_succ]
 refine wpAnyH_take (i := 2) (oi := { dst := some 10, op := Op.indexAddr 60 (Operand.tmp 8) (Operand.tmp 9), type := 0, pos := "draw.go:182", after := #[{ on := 0, ground := Ground.data }, { on := 1, ground := Ground.data }], guard := none }) (v := .pointer (some ⟨rb, x * 16, none⟩)) rfl (by kernel_rfl) (by kernel_rfl) (by kernel_rfl) (fun _ _ _ h => h) (Or.inl ⟨by rfl, fun w hSw => by
  obtain ⟨q1,q2,q3⟩:=hSw
  go_simp⟩) hHeld ?_
 simp only [Act.put,List.setIfInBounds_toArray,List.set_cons_zero,List.set_cons_succ]
 refine wpAnyH_take (i := 3) (oi := { dst := some 11, op := Op.load 27 (Operand.tmp 10), type := 27, pos := "draw.go:182", after := #[{ on := 2, ground := Ground.data }], guard := none }) rfl (by kernel_rfl) (by kernel_rfl) (by kernel_rfl) (fun _ _ _ h => h) (yieldsIf_load_mid (by rfl) _ _ rfl _ _ rfl _ _ (fun w hSw => hSw.2.1) hu rfl hi) hHeld ?_
 simp only [Act.put,List.setIfInBounds_toArray,List.set_cons_zero,List.set_cons_succ]
 refine wpAnyH_take (i := 4) (oi := { dst := some 12, op := Op.load 60 (Operand.tmp 2), type := 60, pos := "draw.go:182", after := #[], guard := none }) (v := .slice (some ⟨rb, 0, none⟩) n cap) rfl (by kernel_rfl) (by kernel_rfl) (by kernel_rfl) (fun _ _ _ h => h) (Or.inl ⟨by rfl, fun w hSw => by
  obtain ⟨q1,q2,q3⟩:=hSw
  go_simp⟩) hHeld ?_
 simp only [Act.put,List.setIfInBounds_toArray,List.set_cons_zero,List.set_cons_succ]
 refine wpAnyH_take (i := 5) (oi := { dst := some 13, op := Op.move (Operand.tmp 1), type := 3, pos := "draw.go:182", after := #[], guard := none }) (v := .int .i64 y) rfl (by kernel_rfl) (by kernel_rfl) (by kernel_rfl) (fun _ _ _ h => h) (Or.inl ⟨by rfl, fun w hSw => by
  obtain ⟨q1,q2,q3⟩:=hSw
  go_simp⟩) hHeld ?_
 simp only [Act.put,List.setIfInBounds_toArray,List.set_cons_zero,List.set_cons_succ]
 refine wpAnyH_take (i := 6) (oi := { dst := some 14, op := Op.indexAddr 60 (Operand.tmp 12) (Operand.tmp 13), type := 0, pos := "draw.go:182", after := #[{ on := 4, ground := Ground.data }, { on := 5, ground := Ground.data }], guard := none }) (v := .pointer (some ⟨rb, y * 16, none⟩)) rfl (by kernel_rfl) (by kernel_rfl) (by kernel_rfl) (fun _ _ _ h => h) (Or.inl ⟨by rfl, fun w hSw => by
  obtain ⟨q1,q2,q3⟩:=hSw
  go_simp⟩) hHeld ?_
 simp only [Act.put,List.setIfInBounds_toArray,List.set_cons_zero,List.set_cons_succ]
 refine wpAnyH_take (i := 7) (oi := { dst := some 15, op := Op.load 27 (Operand.tmp 14), type := 27, pos := "draw.go:182", after := #[{ on := 6, ground := Ground.data }], guard := none }) rfl (by kernel_rfl) (by kernel_rfl) (by kernel_rfl) (fun _ _ _ h => h) (yieldsIf_load_mid (by rfl) _ _ rfl _ _ rfl _ _ (fun w hSw => hSw.2.2) hu rfl hi2) hHeld ?_
 simp only [Act.put,List.setIfInBounds_toArray,List.set_cons_zero,List.set_cons_succ]
 refine wpAnyH_ready (rs:=[8,9]) (by kernel_rfl) (by simp) ?_
 have lt7:b7 < w.heap.size:=World.block_lt_of_cell? _ _ h7
 have ltr:rb < w.heap.size:=by
  have:vx[0]?=some vx[0]:=List.getElem?_eq_getElem (by omega)
  exact World.block_lt_of_cell? _ _ (rx 0 _ this)
 have hSk:∀ w',Gr w w'→w'.cell? ⟨b7,0,none⟩=some (.slice (some ⟨rb,0,none⟩) n cap)∧w'.rangeAt rb (x * 16) vx∧w'.rangeAt rb (y * 16) vy:=fun w' g =>
  ⟨(g.si.cell lt7).trans h7,fun j v hv=>(g.si.cell (a:=⟨rb,x * 16 + j,none⟩) ltr).trans (rx j v hv),fun j v hv=>(g.si.cell (a:=⟨rb,y * 16 + j,none⟩) ltr).trans (ry j v hv)⟩
 clear hHeld
 refine AllReadyH.cons (o := { dst := some 6, op := Op.alloc 27, type := 0, pos := "draw.go:182", after := #[], guard := none }) rfl (fun K hK => ?_) (AllReadyH.cons (o := { dst := some 7, op := Op.alloc 27, type := 0, pos := "draw.go:182", after := #[], guard := none }) rfl (fun K hK => ?_) AllReadyH.nil)
 · go_simp
   refine hK.out _ _ (hSk _ ((Gr.refl w).alloc _).drew) (fun hHeld=>?_)
   clear hK K hHeld
   refine wpAnyH_ready (rs:=[9]) (by kernel_rfl) (by simp) ?_
   refine AllReadyH.cons (o := { dst := some 7, op := Op.alloc 27, type := 0, pos := "draw.go:182", after := #[], guard := none }) rfl (fun K hK => ?_) AllReadyH.nil
   go_simp
   refine hK.out _ _ (hSk _ (((Gr.refl w).alloc _).alloc _).drew) (fun hHeld=>?_)
   clear hK K hHeld
   have hF:∀ (A B:Array Value) (t:TypeId),A.size=16→B.size=16→(fun W:World=>Gr w W∧W.there w.heap.size 0 16∧W.there (w.heap.size + 1) 0 16) ((w.alloc (.cells A t)).alloc (.cells B t)).drew:=fun A B t hA hB=>by
    have t1:=there_alloc (hA ▸ there_new w A t:(w.alloc (.cells A t)).there w.heap.size 0 16) (.cells B t)
    have t2:=(hB ▸ there_new (w.alloc (.cells A t)) B t:((w.alloc (.cells A t)).alloc (.cells B t)).there (w.alloc (.cells A t)).heap.size 0 16)
    rw [show (w.alloc (.cells A t)).heap.size=w.heap.size + 1 by simp] at t2
    exact ⟨(((Gr.refl w).alloc _).alloc _).drew,there_drewW (by assumption),there_drewW (by assumption)⟩
   refine anyH_gen (F:=fun W=>Gr w W∧W.there w.heap.size 0 16∧W.there (w.heap.size + 1) 0 16) (hF _ _ _ rfl rfl) ?_
   clear hF
   rintro W2 ⟨g2,t6,t7⟩
   refine wpAnyH_ready (rs:=[10]) (by kernel_rfl) (by simp) ?_
   refine AllReadyH.cons (o := { dst := none, op := Op.store 27 (Operand.tmp 6) (Operand.tmp 11), type := 0, pos := "draw.go:182", after := #[{ on := 8, ground := Ground.data }, { on := 3, ground := Ground.data }, { on := 0, ground := Ground.phase }, { on := 1, ground := Ground.phase }, { on := 2, ground := Ground.phase }, { on := 3, ground := Ground.phase }, { on := 4, ground := Ground.textOnly Departure.inlinedCapture }, { on := 5, ground := Ground.textOnly Departure.lateStores }, { on := 6, ground := Ground.textOnly Departure.lateStoresUnsure }, { on := 7, ground := Ground.phase }, { on := 8, ground := Ground.phase }, { on := 9, ground := Ground.phase }], guard := none }) rfl (fun K hK => ?_) AllReadyH.nil
   have hsz1:vx.toArray.size=16:=by simpa using hlx
   have hsz2:vy.toArray.size=16:=by simpa using hly
   rw [if_pos (by rfl)]
   refine wp_store_mid _ _ _ rfl _ _ (List.toArray _) rfl rfl (by rw [hsz1]; exact t6) (by rw [hsz1,← hlx]; exact hi) (all_oneCell_toArray (by assumption)) ?_
   have g3:=g2.cells (b:=w.heap.size) (by omega) vx 0
   have r6:=World.rangeAt_setCells_same W2 w.heap.size 0 vx (by rw [hlx]; exact t6)
   have t73:=World.there_setCells t7 w.heap.size 0 vx
   refine hK.out _ _ (hSk _ g3) (fun hHeld=>?_)
   clear hK K hHeld
   simp only [List.toList_toArray]
   generalize W2.setCells w.heap.size 0 vx=W3 at g3 r6 t73 ⊢
   clear t6 t7 g2
   refine wpAnyH_ready (rs:=[11]) (by kernel_rfl) (by simp) ?_
   refine AllReadyH.cons (o := { dst := none, op := Op.store 27 (Operand.tmp 7) (Operand.tmp 15), type := 0, pos := "draw.go:182", after := #[{ on := 9, ground := Ground.data }, { on := 7, ground := Ground.data }, { on := 10, ground := Ground.chain }, { on := 0, ground := Ground.phase }, { on := 1, ground := Ground.phase }, { on := 2, ground := Ground.phase }, { on := 3, ground := Ground.phase }, { on := 4, ground := Ground.phase }, { on := 5, ground := Ground.phase }, { on := 6, ground := Ground.phase }, { on := 7, ground := Ground.phase }, { on := 8, ground := Ground.phase }, { on := 9, ground := Ground.phase }, { on := 10, ground := Ground.phase }], guard := none }) rfl (fun K hK => ?_) AllReadyH.nil
   rw [if_pos (by rfl)]
   refine wp_store_mid _ _ _ rfl _ _ (List.toArray _) rfl rfl (by rw [hsz2]; exact t73) (by rw [hsz2,← hly]; exact hi2) (all_oneCell_toArray (by assumption)) ?_
   have g4:=g3.cells (b:=(w.heap.size + 1)) (by omega) vy 0
   have r7:=World.rangeAt_setCells_same W3 (w.heap.size + 1) 0 vy (by rw [hly]; exact t73)
   have r64:=World.rangeAt_setCells_apart r6 (w.heap.size + 1) 0 vy (.inl (by omega))
   refine hK.out _ _ (hSk _ g4) (fun hHeld=>?_)
   clear hK K hHeld
   simp only [List.toList_toArray]
   generalize W3.setCells (w.heap.size + 1) 0 vy=W4 at g4 r64 r7 ⊢
   clear t73 r6 g3
   refine wpAnyH_done (by kernel_rfl) ?_ _
   go_wp2
   have hcmp:∀ W:World,W.rangeAt w.heap.size 0 vx→W.rangeAt (w.heap.size + 1) 0 vy→Calls Tryz.prog 55 #[.slice (some ⟨w.heap.size,0,none⟩) 16 16,.slice (some ⟨(w.heap.size + 1),0,none⟩) 16 16] W fun e w'=>e=.returned (.int .i64 (Lib.compareBytes (rk x) (rk y)))∧w'=W:=fun W q1 q2=>by
    have:=cmp44 w.heap.size 0 16 (w.heap.size + 1) 0 16 (rk x) (rk y) W (hc1 W _ q1) (hc2 W _ q2)
    rw [h16 x,h16 y] at this
    exact this
   have hcm2:∀ W:World,Calls Tryz.prog 56 #[.int .i64 x,.int .i64 y] W fun e w'=>e=.returned (.int .i64 (cmpI x y))∧w'=W:=fun W=>cmp45 x y W
   have hcf:cfO rk x y=if Lib.compareBytes (rk x) (rk y)=0 then cmpI x y else Lib.compareBytes (rk x) (rk y):=rfl
   generalize Lib.compareBytes (rk x) (rk y)=cb at hcmp hcf
   generalize cmpI x y=ci at hcm2 hcf
   have h43:∀ W:World,Calls Tryz.prog 54 #[.slice (some ⟨W.heap.size,0,none⟩) 2 2] (W.alloc (.cells #[.int .i64 cb,.int .i64 ci] 3)).drew fun e w'=>e=.returned (.int .i64 (cfO rk x y))∧w'=(W.alloc (.cells #[.int .i64 cb,.int .i64 ci] 3)).drew:=fun W=>by
    rw [hcf]; exact or43n cb ci W
   clear hcf
   generalize hcr:cfO rk x y=cr at h43
   clear hc1 hc2 hSk hr rx ry h7 ho1 ho2 hi hi2 hu ix1 ix2 iy1 iy2 hsz1 hsz2
   go_region_held3 (fun w'=>w'.rangeAt w.heap.size 0 vx∧w'.rangeAt (w.heap.size + 1) 0 vy) (go_keep_ranges)
    (first
      | (go_at_call 55; refine (hcmp _ (by go_split_ands; assumption) (by go_split_ands; assumption)).mono ?_; rintro e w' ⟨rfl,rfl⟩)
      | (go_at_call 56; refine (hcm2 _).mono ?_; rintro e w' ⟨rfl,rfl⟩)
      | (go_at_call 54; refine (h43 _).mono ?_; rintro e w' ⟨rfl,rfl⟩))
   all_goals go_wp2
   go_ret
   exact ⟨by rw [hcr]; rfl,((g4.alloc _).drew).grow⟩
 · go_simp
   refine hK.out _ _ (hSk _ ((Gr.refl w).alloc _).drew) (fun hHeld=>?_)
   clear hK K hHeld
   refine wpAnyH_ready (rs:=[8]) (by kernel_rfl) (by simp) ?_
   refine AllReadyH.cons (o := { dst := some 6, op := Op.alloc 27, type := 0, pos := "draw.go:182", after := #[], guard := none }) rfl (fun K hK => ?_) AllReadyH.nil
   go_simp
   refine hK.out _ _ (hSk _ (((Gr.refl w).alloc _).alloc _).drew) (fun hHeld=>?_)
   clear hK K hHeld
   have hF:∀ (A B:Array Value) (t:TypeId),A.size=16→B.size=16→(fun W:World=>Gr w W∧W.there (w.heap.size + 1) 0 16∧W.there w.heap.size 0 16) ((w.alloc (.cells A t)).alloc (.cells B t)).drew:=fun A B t hA hB=>by
    have t1:=there_alloc (hA ▸ there_new w A t:(w.alloc (.cells A t)).there w.heap.size 0 16) (.cells B t)
    have t2:=(hB ▸ there_new (w.alloc (.cells A t)) B t:((w.alloc (.cells A t)).alloc (.cells B t)).there (w.alloc (.cells A t)).heap.size 0 16)
    rw [show (w.alloc (.cells A t)).heap.size=w.heap.size + 1 by simp] at t2
    exact ⟨(((Gr.refl w).alloc _).alloc _).drew,there_drewW (by assumption),there_drewW (by assumption)⟩
   refine anyH_gen (F:=fun W=>Gr w W∧W.there (w.heap.size + 1) 0 16∧W.there w.heap.size 0 16) (hF _ _ _ rfl rfl) ?_
   clear hF
   rintro W2 ⟨g2,t6,t7⟩
   refine wpAnyH_ready (rs:=[10]) (by kernel_rfl) (by simp) ?_
   refine AllReadyH.cons (o := { dst := none, op := Op.store 27 (Operand.tmp 6) (Operand.tmp 11), type := 0, pos := "draw.go:182", after := #[{ on := 8, ground := Ground.data }, { on := 3, ground := Ground.data }, { on := 0, ground := Ground.phase }, { on := 1, ground := Ground.phase }, { on := 2, ground := Ground.phase }, { on := 3, ground := Ground.phase }, { on := 4, ground := Ground.textOnly Departure.inlinedCapture }, { on := 5, ground := Ground.textOnly Departure.lateStores }, { on := 6, ground := Ground.textOnly Departure.lateStoresUnsure }, { on := 7, ground := Ground.phase }, { on := 8, ground := Ground.phase }, { on := 9, ground := Ground.phase }], guard := none }) rfl (fun K hK => ?_) AllReadyH.nil
   have hsz1:vx.toArray.size=16:=by simpa using hlx
   have hsz2:vy.toArray.size=16:=by simpa using hly
   rw [if_pos (by rfl)]
   refine wp_store_mid _ _ _ rfl _ _ (List.toArray _) rfl rfl (by rw [hsz1]; exact t6) (by rw [hsz1,← hlx]; exact hi) (all_oneCell_toArray (by assumption)) ?_
   have g3:=g2.cells (b:=(w.heap.size + 1)) (by omega) vx 0
   have r6:=World.rangeAt_setCells_same W2 (w.heap.size + 1) 0 vx (by rw [hlx]; exact t6)
   have t73:=World.there_setCells t7 (w.heap.size + 1) 0 vx
   refine hK.out _ _ (hSk _ g3) (fun hHeld=>?_)
   clear hK K hHeld
   simp only [List.toList_toArray]
   generalize W2.setCells (w.heap.size + 1) 0 vx=W3 at g3 r6 t73 ⊢
   clear t6 t7 g2
   refine wpAnyH_ready (rs:=[11]) (by kernel_rfl) (by simp) ?_
   refine AllReadyH.cons (o := { dst := none, op := Op.store 27 (Operand.tmp 7) (Operand.tmp 15), type := 0, pos := "draw.go:182", after := #[{ on := 9, ground := Ground.data }, { on := 7, ground := Ground.data }, { on := 10, ground := Ground.chain }, { on := 0, ground := Ground.phase }, { on := 1, ground := Ground.phase }, { on := 2, ground := Ground.phase }, { on := 3, ground := Ground.phase }, { on := 4, ground := Ground.phase }, { on := 5, ground := Ground.phase }, { on := 6, ground := Ground.phase }, { on := 7, ground := Ground.phase }, { on := 8, ground := Ground.phase }, { on := 9, ground := Ground.phase }, { on := 10, ground := Ground.phase }], guard := none }) rfl (fun K hK => ?_) AllReadyH.nil
   rw [if_pos (by rfl)]
   refine wp_store_mid _ _ _ rfl _ _ (List.toArray _) rfl rfl (by rw [hsz2]; exact t73) (by rw [hsz2,← hly]; exact hi2) (all_oneCell_toArray (by assumption)) ?_
   have g4:=g3.cells (b:=w.heap.size) (by omega) vy 0
   have r7:=World.rangeAt_setCells_same W3 w.heap.size 0 vy (by rw [hly]; exact t73)
   have r64:=World.rangeAt_setCells_apart r6 w.heap.size 0 vy (.inl (by omega))
   refine hK.out _ _ (hSk _ g4) (fun hHeld=>?_)
   clear hK K hHeld
   simp only [List.toList_toArray]
   generalize W3.setCells w.heap.size 0 vy=W4 at g4 r64 r7 ⊢
   clear t73 r6 g3
   refine wpAnyH_done (by kernel_rfl) ?_ _
   go_wp2
   have hcmp:∀ W:World,W.rangeAt (w.heap.size + 1) 0 vx→W.rangeAt w.heap.size 0 vy→Calls Tryz.prog 55 #[.slice (some ⟨(w.heap.size + 1),0,none⟩) 16 16,.slice (some ⟨w.heap.size,0,none⟩) 16 16] W fun e w'=>e=.returned (.int .i64 (Lib.compareBytes (rk x) (rk y)))∧w'=W:=fun W q1 q2=>by
    have:=cmp44 (w.heap.size + 1) 0 16 w.heap.size 0 16 (rk x) (rk y) W (hc1 W _ q1) (hc2 W _ q2)
    rw [h16 x,h16 y] at this
    exact this
   have hcm2:∀ W:World,Calls Tryz.prog 56 #[.int .i64 x,.int .i64 y] W fun e w'=>e=.returned (.int .i64 (cmpI x y))∧w'=W:=fun W=>cmp45 x y W
   have hcf:cfO rk x y=if Lib.compareBytes (rk x) (rk y)=0 then cmpI x y else Lib.compareBytes (rk x) (rk y):=rfl
   generalize Lib.compareBytes (rk x) (rk y)=cb at hcmp hcf
   generalize cmpI x y=ci at hcm2 hcf
   have h43:∀ W:World,Calls Tryz.prog 54 #[.slice (some ⟨W.heap.size,0,none⟩) 2 2] (W.alloc (.cells #[.int .i64 cb,.int .i64 ci] 3)).drew fun e w'=>e=.returned (.int .i64 (cfO rk x y))∧w'=(W.alloc (.cells #[.int .i64 cb,.int .i64 ci] 3)).drew:=fun W=>by
    rw [hcf]; exact or43n cb ci W
   clear hcf
   generalize hcr:cfO rk x y=cr at h43
   clear hc1 hc2 hSk hr rx ry h7 ho1 ho2 hi hi2 hu ix1 ix2 iy1 iy2 hsz1 hsz2
   go_region_held3 (fun w'=>w'.rangeAt (w.heap.size + 1) 0 vx∧w'.rangeAt w.heap.size 0 vy) (go_keep_ranges)
    (first
      | (go_at_call 55; refine (hcmp _ (by go_split_ands; assumption) (by go_split_ands; assumption)).mono ?_; rintro e w' ⟨rfl,rfl⟩)
      | (go_at_call 56; refine (hcm2 _).mono ?_; rintro e w' ⟨rfl,rfl⟩)
      | (go_at_call 54; refine (h43 _).mono ?_; rintro e w' ⟨rfl,rfl⟩))
   all_goals go_wp2
   go_ret
   exact ⟨by rw [hcr]; rfl,((g4.alloc _).drew).grow⟩
end Go.Proofs.YtclmdhceceacoaaGreatDoor
