/-
 Layer 52 (house): the statement HouseKeepsItsDays.
 Conditions: none;every input.
-/
import Derived.Test.YtailhmffljoojaaK14
import Derived.Test.YtailhmffljoojaaEL1
import Derived.JoinedOf
import Derived.Test.YtailhmffljoojaaRows
namespace Go.Proofs.Ytailhmffljoojaa
open Go Go.E2 C22 C52
open Go.ChangeShapes Go.WideShapes Go.RowKit
abbrev rI (k:IntKind):D→Prop:=fun d=>∃ n,(Lit.int k n).wf=true∧d=.int k n
abbrev rS:D→Prop:=fun d=>∃ s:List UInt8,s.length≤maxLen∧d=.str s
abbrev rL:D→Prop:=fun d=>∃ es:List D,d=.list es
abbrev rR:D→Prop:=fun d=>∃ r:Rf,d=eRf r
abbrev rA:D→Prop:=fun d=>∃ (a:Ask) (u v:List D),d=eA a u v
abbrev r16:D→Prop:=fun d=>∃ l:List Int,(∀ x∈l,0≤x∧x<65536)∧d=.list (l.map z1m)
abbrev r8:D→Prop:=fun d=>∃ l:List Int,(∀ x∈l,0≤x∧x<256)∧d=.list (l.map eB8)
theorem rd3:zd3 Try.prog 3 false (rI .i64):=zfy (by kernel_rfl)
theorem rd9:zd3 Try.prog 9 false rS:=zk6 (by kernel_rfl)
theorem z80:zd3 Try.prog 28 false (rI .u16):=zfy (by kernel_rfl)
theorem rd5:zd3 Try.prog 5 false (rI .u8):=zfy (by kernel_rfl)
theorem z81:zel Try.prog 28 (rI .u16):=zor (by kernel_rfl)
theorem zi1 {α:Type} {f:α→D} {es:List D} {P:D→Prop} {Q:α→Prop} (hP:∀ d,P d→∃ a,Q a∧d=f a) (h:∀ d∈es,P d):∃ l:List α,(∀ x∈l,Q x)∧es=l.map f:=by
 induction es with
 | nil=>exact ⟨[],fun x hx=>by simp at hx,rfl⟩
 | cons e es ih =>
  obtain ⟨l,hq,hl⟩:=ih fun d hd=>h d (List.mem_cons_of_mem _ hd)
  obtain ⟨a,hqa,ha⟩:=hP e (h e List.mem_cons_self)
  refine ⟨a::l,fun x hx=>?_,by rw [List.map_cons,ha,hl]⟩
  rcases List.mem_cons.1 hx with rfl|hx
  · exact hqa
  · exact hq x hx
theorem z6r {n:Int} (h:(Lit.int .u8 n).wf=true):0≤n∧n<256:=by
 have:0≤n∧n≤255:=by simpa [Lit.wf,IntKind.min,IntKind.max,IntKind.signed,IntKind.bits] using h
 omega
theorem zrs {n:Int} (h:(Lit.int .u16 n).wf=true):0≤n∧n<65536:=by
 have:0≤n∧n≤65535:=by simpa [Lit.wf,IntKind.min,IntKind.max,IntKind.signed,IntKind.bits] using h
 omega
set_option maxRecDepth 100000 in
theorem z78:zd3 Try.prog 23 false rR :=
 zgl (zg8 (Rs:=[rI .i64,rI .i64,rI .i64,rI .i64]) (fs:=fieldsOf Try.prog 23) (by kernel_rfl) (zpw (l:=[(0,3),(1,3),(2,3),(3,3)]) (by kernel_rfl)
  ⟨rfl,rd3,by kernel_rfl,rd3,by kernel_rfl,rd3,by kernel_rfl,rd3,trivial⟩) (by kernel_rfl)) (by
  rintro d ⟨parts,hp,rfl⟩
  obtain ⟨_,_,rfl,⟨a,_,rfl⟩,hp1⟩:=z3 hp
  obtain ⟨_,_,rfl,⟨b,_,rfl⟩,hp2⟩:=z3 hp1
  obtain ⟨_,_,rfl,⟨c,_,rfl⟩,hp3⟩:=z3 hp2
  obtain ⟨_,_,rfl,⟨e,_,rfl⟩,hp4⟩:=z3 hp3
  obtain rfl:=zh7 hp4
  exact ⟨⟨a,b,c,e⟩,rfl⟩)
theorem z82:zd3 Try.prog 24 false rL :=
 zgl (zfi (s:=false) (e:=23) (sz:=4) (by kernel_rfl) (by kernel_rfl) (by decide) z78) (by rintro d ⟨es,_,_,_,rfl⟩;exact ⟨es,rfl⟩)
theorem z83:zd3 Try.prog 25 false rL :=
 zgl (zfi (s:=false) (e:=3) (sz:=1) (by kernel_rfl) (by kernel_rfl) (by decide) rd3) (by rintro d ⟨es,_,_,_,rfl⟩;exact ⟨es,rfl⟩)
set_option maxRecDepth 100000 in
theorem z84:zel Try.prog 27 rA :=
 zfj (zkc (fs:=fieldsOf Try.prog 27) (by kernel_rfl) (zg8 (s:=false) (Rs:=[rI .i64,rR,rI .i64,rI .i64,rI .i64,rS,rI .i64,rI .i64,rI .i64,rL,rL]) (fs:=fieldsOf Try.prog 27) (by kernel_rfl)
  (zpw (l:=[(0,3),(1,23),(5,3),(6,3),(7,3),(8,9),(9,3),(10,3),(11,3),(12,24),(13,25)]) (by kernel_rfl)
  ⟨rfl,rd3,by kernel_rfl,z78,by kernel_rfl,rd3,by kernel_rfl,rd3,by kernel_rfl,rd3,by kernel_rfl,rd9,by kernel_rfl,rd3,by kernel_rfl,rd3,by kernel_rfl,rd3,by kernel_rfl,z82,by kernel_rfl,z83,trivial⟩) (by kernel_rfl))
  (fun d ⟨p,_,e⟩=>⟨_,e⟩)) (by
  rintro d ⟨parts,hp,rfl⟩
  obtain ⟨_,_,rfl,⟨a,_,rfl⟩,hp1⟩:=z3 hp
  obtain ⟨_,_,rfl,⟨r,rfl⟩,hp2⟩:=z3 hp1
  obtain ⟨_,_,rfl,⟨c,_,rfl⟩,hp3⟩:=z3 hp2
  obtain ⟨_,_,rfl,⟨e,_,rfl⟩,hp4⟩:=z3 hp3
  obtain ⟨_,_,rfl,⟨t,_,rfl⟩,hp5⟩:=z3 hp4
  obtain ⟨_,_,rfl,⟨s,_,rfl⟩,hp6⟩:=z3 hp5
  obtain ⟨_,_,rfl,⟨f,_,rfl⟩,hp7⟩:=z3 hp6
  obtain ⟨_,_,rfl,⟨g,_,rfl⟩,hp8⟩:=z3 hp7
  obtain ⟨_,_,rfl,⟨w,_,rfl⟩,hp9⟩:=z3 hp8
  obtain ⟨_,_,rfl,⟨u,rfl⟩,hp10⟩:=z3 hp9
  obtain ⟨_,_,rfl,⟨v,rfl⟩,hp11⟩:=z3 hp10
  obtain rfl:=zh7 hp11
  exact ⟨⟨a,r,c,e,t,s,f,g,w⟩,u,v,rfl⟩)
theorem z85:zel Try.prog 29 r16 :=
 zfj (zg9 (e:=28) (sz:=1) (by kernel_rfl) (by kernel_rfl) (by decide) z80) (by
  rintro d ⟨es,h,_,_,rfl⟩
  obtain ⟨l,hq,rfl⟩:=zi1 (f:=z1m) (Q:=fun n=>0≤n∧n<65536) (fun d ⟨n,hn,e⟩=>⟨n,zrs hn,e⟩) h
  exact ⟨l,hq,rfl⟩)
theorem z86:zel Try.prog 30 r8 :=
 zfj (zg9 (e:=5) (sz:=1) (by kernel_rfl) (by kernel_rfl) (by decide) rd5) (by
  rintro d ⟨es,h,_,_,rfl⟩
  obtain ⟨l,hq,rfl⟩:=zi1 (f:=eB8) (Q:=fun n=>0≤n∧n<256) (fun d ⟨n,hn,e⟩=>⟨n,z6r hn,e⟩) h
  exact ⟨l,hq,rfl⟩)
theorem own:ownKnob Try.prog.godebug=none:=by kernel_rfl
theorem z87:z1z Try.prog [27,28,29,30] [rA,rI .u16,r16,r8]:=⟨z84,z81,z85,z86,trivial⟩
theorem z6s:∀ xs,zjb [rA,rI .u16,r16,r8] xs→za2 Try.prog f_zz10 xs (·=.d (.bool true)):=by
 intro xs hp
 obtain ⟨_,_,rfl,⟨a,u,v,rfl⟩,hp1⟩:=z3 hp
 obtain ⟨_,_,rfl,⟨n,hn,rfl⟩,hp2⟩:=z3 hp1
 obtain ⟨_,_,rfl,⟨l,hl,rfl⟩,hp3⟩:=z3 hp2
 obtain ⟨_,_,rfl,⟨k,hk,rfl⟩,hp4⟩:=z3 hp3
 obtain rfl:=zh7 hp4
 exact ztw a u v n l k (zrs hn).1 (zrs hn).2 hl hk
set_option maxRecDepth 100000 in
theorem zl4 (os:Os) (started:os.Started) (H:Type) (enc:TypeId×Value→H) :
 ReturnsInHanded {} Try.checked os 3 .any (Rows.houseKeepsItsDaysSpec.pre6 enc Try.prog Try.f3 Rows.houseKeepsItsDaysRow.domain false) (Rows.houseKeepsItsDaysSpec.post enc Try.prog Try.f3 false true false false):=by
 refine returnsInHanded_of_change (C:=Try.checked) own started (by kernel_rfl) Try.func3
  (ChangeSpec.witness6 (enc := enc) (C := Try.checked) false ⟨#[], #[.agg #[.int .i64 0, .int .i64 0, .int .i64 0, .int .i64 0, .int .i64 0, .int .i64 0, .int .i64 0, .int .i64 0, .string "".toUTF8, .int .i64 0, .int .i64 0, .int .i64 0, .slice none 0 0, .slice none 0 0], .int .u16 0, .slice none 0 0, .slice none 0 0], []⟩ 8 (by kernel_rfl) (by kernel_rfl) (by kernel_rfl) (by kernel_rfl)) ?_
 intro W base args ds gs before hval hW _ _
 exact zk9 (Rs:=[rA,rI .u16,r16,r8]) (tb:=4) ⟨_,_,Try.func3,rfl,rfl⟩ rfl z87 (by kernel_rfl) (by kernel_rfl)
  (fun H ds h=>by
    match ds,h with
    | [d1,d2,d3,d4],_=>exact ⟨rfl,rfl,rfl⟩)
  z6s hval hW
theorem keeps_said:Rows.HouseKeepsItsDaysSaid :=
 OpenClaim.holds_of_wide 3 Try.f3 rfl rfl rfl rfl rfl rfl rfl ⟨rfl,rfl,rfl,rfl,rfl⟩ rfl rfl rfl rfl rfl (by kernel_rfl) Try.func3 (by kernel_rfl)
  (of_decide_eq_true (by kernel_rfl)) (by unfold Func.isWrapper;first|(rw [if_pos (by decide +kernel)];kernel_rfl)|(rw [if_neg (by decide +kernel)];exact ⟨rfl,rfl⟩))
  (fun os started H enc _=>zl4 os started H enc)
end Go.Proofs.Ytailhmffljoojaa
