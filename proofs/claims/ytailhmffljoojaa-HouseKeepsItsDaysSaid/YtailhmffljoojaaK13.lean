/-
 Layer 52 (house),continued: the examples.
 Conditions: none.
-/
import Derived.Test.YtailhmffljoojaaK12
set_option linter.unusedSimpArgs false
namespace Go.Proofs.Ytailhmffljoojaa
open Go Go.E2 C22 C52
set_option maxHeartbeats 4000000
def rfA:Rf:=⟨1,7,3,0⟩
def rfB:Rf:=⟨1,7,3,1⟩
def rfC:Rf:=⟨2,7,0,0⟩
def xx (n:Nat):Str:=List.replicate n 120
def en0:En:=⟨rfA,10,20,0,xx 60⟩
def en1:En:=⟨rfA,15,30,0,xx 60⟩
def enS:En:=⟨rfC,0,30,0,[115]⟩
def enL:En:=⟨rfA,10,50,0,xx 432⟩
theorem z77:Sml en0:=⟨by decide,by decide,by decide,by decide,by decide +kernel⟩
def kA:Ask:=⟨1,rfA,10,20,0,xx 60,0,0,0⟩
def kG1:Ask:=⟨2,rfA,0,0,0,[],58,2,0⟩
def kG2:Ask:=⟨2,rfA,0,0,0,[],59,2,0⟩
def kG3:Ask:=⟨2,rfB,0,0,0,[],0,0,0⟩
def kD:Ask:=⟨3,rfA,0,0,0,[],0,0,0⟩
def kH1:Ask:=⟨4,rfA,12,15,0,[],0,0,0⟩
def kH2:Ask:=⟨4,rfA,15,30,0,[],0,0,0⟩
def kG4:Ask:=⟨2,rfA,0,0,0,[],0,0,0⟩
def kS:Ask:=⟨1,rfC,0,30,0,[115],0,0,0⟩
def kL:Ask:=⟨1,rfA,10,50,0,xx 432,0,0,0⟩
def kM:Ask:=⟨1,rfB,10,50,0,xx 432,0,0,0⟩
theorem d1 (hb:Nat) (m:Int) (hm:m≤900000):zt Try.prog f_zz47 [.gp hb 0,.int .i64 5,eA0 kA] [HsA hb 10 m none] (fun r post=>r=.d (eSy 0 [])∧post=[HsA hb 10 (m+200) (some en0)]):=by
 refine zt.args ?_ (zhm hb 5 kA)
 have h:=ze8 hb 10 m none 5 kA [] [] (by decide) (by decide) (by decide) (by decide) (by omega) rfl (by decide) (fun _=>rfl)
 have e:ze7 10 (zas 5 none) 5 kA=0:=by decide +kernel
 rw [e] at h
 exact h
theorem d2 (hb:Nat) (m:Int) (hm:m≤900000):zt Try.prog f_zz47 [.gp hb 0,.int .i64 6,eA0 kA] [HsA hb 10 m (some en0)] (fun r post=>r=.d (eSy 9 [])∧post=[HsA hb 10 (m+200) (some en0)]):=by
 refine zt.args ?_ (zhm hb 6 kA)
 have h:=ze8 hb 10 m (some en0) 6 kA [] [] (by decide) (by decide) (by decide) (by decide) (by omega) rfl (by decide) (fun h=>absurd h (by decide +kernel))
 have e:ze7 10 (zas 6 (some en0)) 6 kA=9:=by decide +kernel
 rw [e] at h
 exact h
theorem d3 (hb:Nat) (m:Int) (hm:m≤900000):zt Try.prog f_zz47 [.gp hb 0,.int .i64 6,eA0 kG1] [HsA hb 10 m (some en0)] (fun r post=>r=.d (eSy 0 [120,120])∧post=[HsA hb 10 (m+100) (some en0)]):=by
 exact zcj hb 10 m (some en0) 6 kG1 (by decide) (by decide) (by decide) (by decide) (by omega) rfl (by decide)
theorem d4 (hb:Nat) (m:Int) (hm:m≤900000):zt Try.prog f_zz47 [.gp hb 0,.int .i64 6,eA0 kG2] [HsA hb 10 m (some en0)] (fun r post=>r=.d (eSy 3 [])∧post=[HsA hb 10 (m+100) (some en0)]):=by
 exact zcj hb 10 m (some en0) 6 kG2 (by decide) (by decide) (by decide) (by decide) (by omega) rfl (by decide)
theorem d5 (hb:Nat) (m:Int) (hm:m≤900000):zt Try.prog f_zz47 [.gp hb 0,.int .i64 6,eA0 kG3] [HsA hb 10 m (some en0)] (fun r post=>r=.d (eSy 8 [])∧post=[HsA hb 10 (m+100) (some en0)]):=by
 exact zcj hb 10 m (some en0) 6 kG3 (by decide) (by decide) (by decide) (by decide) (by omega) rfl (by decide)
theorem d6 (hb:Nat) (m:Int) (hm:m≤900000):zt Try.prog f_zz47 [.gp hb 0,.int .i64 10,eA0 kD] [HsA hb 10 m (some en0)] (fun r post=>r=.d (eSy 19 [])∧post=[HsA hb 10 (m+200) (some en0)]):=by
 exact zdz hb 10 m (some en0) 10 kD (by decide) (by decide) (by decide) (by decide) (by omega) rfl (by decide)
theorem d7 (hb:Nat) (m:Int) (hm:m≤900000):zt Try.prog f_zz47 [.gp hb 0,.int .i64 11,eA0 kH1] [HsA hb 10 m (some en0)] (fun r post=>r=.d (eSy 4 [])∧post=[HsA hb 10 (m+200) (some en0)]):=by
 exact zl3 hb 10 m (some en0) 11 kH1 (by decide) (by decide) (by decide) (by decide) (by omega) rfl (by decide) (fun e he=>by cases he;exact z77)
theorem d8 (hb:Nat) (m:Int) (hm:m≤900000):zt Try.prog f_zz47 [.gp hb 0,.int .i64 11,eA0 kH2] [HsA hb 10 m (some en0)] (fun r post=>r=.d (eSy 0 [])∧post=[HsA hb 10 (m+200) (some en1)]):=by
 exact zl3 hb 10 m (some en0) 11 kH2 (by decide) (by decide) (by decide) (by decide) (by omega) rfl (by decide) (fun e he=>by cases he;exact z77)
theorem d9 (hb:Nat) (m:Int) (hm:m≤900000):zt Try.prog f_zz47 [.gp hb 0,.int .i64 15,eA0 kD] [HsA hb 10 m (some en1)] (fun r post=>r=.d (eSy 19 [])∧post=[HsA hb 10 (m+200) (some en1)]):=by
 exact zdz hb 10 m (some en1) 15 kD (by decide) (by decide) (by decide) (by decide) (by omega) rfl (by decide)
theorem d10 (hb:Nat) (m:Int) (hm:m≤900000):zt Try.prog f_zz47 [.gp hb 0,.int .i64 16,eA0 kD] [HsA hb 10 m (some en1)] (fun r post=>r=.d (eSy 0 [])∧post=[HsA hb 10 (m+200) none]):=by
 exact zdz hb 10 m (some en1) 16 kD (by decide) (by decide) (by decide) (by decide) (by omega) rfl (by decide)
theorem d11 (hb:Nat) (m:Int) (hm:m≤900000):zt Try.prog f_zz47 [.gp hb 0,.int .i64 16,eA0 kG4] [HsA hb 10 m none] (fun r post=>r=.d (eSy 8 [])∧post=[HsA hb 10 (m+100) none]):=by
 exact zcj hb 10 m none 16 kG4 (by decide) (by decide) (by decide) (by decide) (by omega) rfl (by decide)
theorem d12 (hb:Nat) (m:Int) (hm:m≤900000):zt Try.prog f_zz47 [.gp hb 0,.int .i64 20,eA0 kS] [HsA hb 10 m none] (fun r post=>r=.d (eSy 0 [])∧post=[HsA hb 10 (m+200) (some enS)]):=by
 refine zt.args ?_ (zhm hb 20 kS)
 have h:=ze8 hb 10 m none 20 kS [] [] (by decide) (by decide) (by decide) (by decide) (by omega) rfl (by decide) (fun _=>rfl)
 have e:ze7 10 (zas 20 none) 20 kS=0:=by decide +kernel
 rw [e] at h
 exact h
theorem d13 (hb:Nat) (m:Int) (hm:m≤900000):zt Try.prog f_zz47 [.gp hb 0,.int .i64 31,eA0 kL] [HsA hb 10 m none] (fun r post=>r=.d (eSy 0 [])∧post=[HsA hb 10 (m+200) (some enL)]):=by
 refine zt.args ?_ (zhm hb 31 kL)
 have h:=ze8 hb 10 m none 31 kL [] [] (by decide) (by decide) (by decide) (by decide) (by omega) rfl (by decide) (fun _=>rfl)
 have e:ze7 10 (zas 31 none) 31 kL=0:=by decide +kernel
 rw [e] at h
 exact h
theorem d14 (hb:Nat) (m:Int) (hm:m≤900000):zt Try.prog f_zz47 [.gp hb 0,.int .i64 31,eA0 kM] [HsA hb 10 m (some enL)] (fun r post=>r=.d (eSy 13 [])∧post=[HsA hb 10 (m+200) (some enL)]):=by
 refine zt.args ?_ (zhm hb 31 kM)
 have h:=ze8 hb 10 m (some enL) 31 kM [] [] (by decide) (by decide) (by decide) (by decide) (by omega) rfl (by decide) (fun h=>absurd h (by decide +kernel))
 have e:ze7 10 (zas 31 (some enL)) 31 kM=13:=by decide +kernel
 rw [e] at h
 exact h
theorem dP (hb:Nat) (m:Int) (hm:m≤900000):zt Try.prog f_zz25 [.gp hb 0,.int .i64 31] [HsA hb 10 m (some enS)] (fun r post=>r=.tup [.list [eRf rfC],.int .i64 0]∧post=[HsA hb 10 (m+100) none]):=by
 have h:=zna hb 10 m (some enS) 31 (by decide) (by decide) (by decide) (by decide) (by omega)
 exact fun R G σ hs=>(h R G σ hs).mono fun r lv G' ⟨e1,post,⟨y,e2,e3,e5⟩,e4⟩=>⟨e1,post,⟨by rw [e2,e3 enS rfl (by decide)];rfl,e5⟩,e4⟩
theorem dL (hb:Nat) (m:Int) (hm:m≤900000):zt Try.prog f_zz24 [.gp hb 0] [HsA hb 10 m none] (fun r post=>r=.tup [.nilS,.int .i64 0]∧post=[HsA hb 10 m none]):=by
 have h:=zru hb 10 m none (by decide) (by decide) (by omega)
 exact fun R G σ hs=>(h R G σ hs).mono fun r lv G' ⟨e1,post,⟨y,e2,e3,e5⟩,e4⟩=>⟨e1,post,⟨by rw [e2,e3 rfl],e5⟩,e4⟩
theorem z1l (n:Nat) (h1:1≤n) (hn:n≤1000):zt Try.prog f_zz22 [.int .i64 n] [] (fun r post=>r=.d (.str (xx n))∧post=[]):=zw9 n h1 hn
theorem zex:zt Try.prog f_zz13 [] [] (fun r post=>r=.d (.bool true)∧post=[]):=by
 refine zj fol zz13_cp fun R G σ hs=>?_
 have hs:Sep R G:=hs
 have f43:min 4 3=3:=rfl
 have f13:min 1 3=1:=rfl
 have f31:min 3 1=1:=rfl
 refine goS trivial ?_
 refine goR trivial ?_
 (refine goM (zoc 10 (by omega) (by omega)) ((show Sep ([]++R) G from hs)) ?_)
 rintro _ _ G0 ⟨hb,pd,rfl,rfl⟩ h0
 have h0:Sep (HsA hb 10 1000 none::R) G0:=h0
 refine goS trivial ?_
 refine goR trivial ?_
 (refine goM (z1l 60 (by omega) (by omega)) ((show Sep ([]++(HsA hb 10 1000 none::R)) G0 from h0)) ?_)
 rintro _ _ G1 ⟨rfl,rfl⟩ h1
 have h1:Sep (HsA hb 10 1000 none::R) G1:=h1
 refine goS trivial ?_
 refine goR (nn f43 (nn f13 f31)) ?_
 (refine goM (d1 hb (1000) (by omega)) (h1) ?_)
 rintro _ _ G2 ⟨rfl,rfl⟩ h2
 have h2:Sep (HsA hb 10 (1200) (some en0)::R) G2:=Sep.hs_mono (by omega) h2
 clear h1
 refine goS trivial ?_
 refine goR (nn f43 (nn f13 f31)) ?_
 (refine goM (d2 hb (1200) (by omega)) (h2) ?_)
 rintro _ _ G3 ⟨rfl,rfl⟩ h3
 have h3:Sep (HsA hb 10 (1400) (some en0)::R) G3:=Sep.hs_mono (by omega) h3
 clear h2
 refine goS trivial ?_
 refine goR (nn f43 (nn f13 f31)) ?_
 (refine goM (d3 hb (1400) (by omega)) (h3) ?_)
 rintro _ _ G4 ⟨rfl,rfl⟩ h4
 have h4:Sep (HsA hb 10 (1500) (some en0)::R) G4:=Sep.hs_mono (by omega) h4
 clear h3
 refine goS trivial ?_
 refine goR (nn f43 (nn f13 f31)) ?_
 (refine goM (d4 hb (1500) (by omega)) (h4) ?_)
 rintro _ _ G5 ⟨rfl,rfl⟩ h5
 have h5:Sep (HsA hb 10 (1600) (some en0)::R) G5:=Sep.hs_mono (by omega) h5
 clear h4
 refine goS trivial ?_
 refine goR (nn f43 (nn f13 f31)) ?_
 (refine goM (d5 hb (1600) (by omega)) (h5) ?_)
 rintro _ _ G6 ⟨rfl,rfl⟩ h6
 have h6:Sep (HsA hb 10 (1700) (some en0)::R) G6:=Sep.hs_mono (by omega) h6
 clear h5
 refine goS trivial ?_
 refine goR (nn f43 (nn f13 f31)) ?_
 (refine goM (d6 hb (1700) (by omega)) (h6) ?_)
 rintro _ _ G7 ⟨rfl,rfl⟩ h7
 have h7:Sep (HsA hb 10 (1900) (some en0)::R) G7:=Sep.hs_mono (by omega) h7
 clear h6
 refine goS trivial ?_
 refine goR (nn f43 (nn f13 f31)) ?_
 (refine goM (d7 hb (1900) (by omega)) (h7) ?_)
 rintro _ _ G8 ⟨rfl,rfl⟩ h8
 have h8:Sep (HsA hb 10 (2100) (some en0)::R) G8:=Sep.hs_mono (by omega) h8
 clear h7
 refine goS trivial ?_
 refine goR (nn f43 (nn f13 f31)) ?_
 (refine goM (d8 hb (2100) (by omega)) (h8) ?_)
 rintro _ _ G9 ⟨rfl,rfl⟩ h9
 have h9:Sep (HsA hb 10 (2300) (some en1)::R) G9:=Sep.hs_mono (by omega) h9
 clear h8
 refine goS trivial ?_
 refine goR (nn f43 (nn f13 f31)) ?_
 (refine goM (d9 hb (2300) (by omega)) (h9) ?_)
 rintro _ _ G10 ⟨rfl,rfl⟩ h10
 have h10:Sep (HsA hb 10 (2500) (some en1)::R) G10:=Sep.hs_mono (by omega) h10
 clear h9
 refine goS trivial ?_
 refine goR (nn f43 (nn f13 f31)) ?_
 (refine goM (d10 hb (2500) (by omega)) (h10) ?_)
 rintro _ _ G11 ⟨rfl,rfl⟩ h11
 have h11:Sep (HsA hb 10 (2700) none::R) G11:=Sep.hs_mono (by omega) h11
 clear h10
 refine goS trivial ?_
 refine goR (nn f43 (nn f13 f31)) ?_
 (refine goM (d11 hb (2700) (by omega)) (h11) ?_)
 rintro _ _ G12 ⟨rfl,rfl⟩ h12
 have h12:Sep (HsA hb 10 (2800) none::R) G12:=Sep.hs_mono (by omega) h12
 clear h11
 refine goS trivial ?_
 refine goR (nn f43 (nn f13 f31)) ?_
 (refine goM (d12 hb (2800) (by omega)) (h12) ?_)
 rintro _ _ G13 ⟨rfl,rfl⟩ h13
 have h13:Sep (HsA hb 10 (3000) (some enS)::R) G13:=Sep.hs_mono (by omega) h13
 clear h12
 refine goS trivial ?_
 refine goR (nn f43 (nn f13 f31)) ?_
 (refine goM (dP hb (3000) (by omega)) (h13) ?_)
 rintro _ _ G14 ⟨rfl,rfl⟩ h14
 have h14:Sep (HsA hb 10 (3100) none::R) G14:=Sep.hs_mono (by omega) h14
 clear h13
 refine goS trivial ?_
 refine goR (nn f43 (nn f13 f31)) ?_
 (refine goM (dL hb (3100) (by omega)) (h14) ?_)
 rintro _ _ G15 ⟨rfl,rfl⟩ h15
 have h15:Sep (HsA hb 10 (3100) none::R) G15:=Sep.hs_mono (by omega) h15
 clear h14
 refine goS trivial ?_
 refine goR trivial ?_
 (refine goM (z1l 432 (by omega) (by omega)) ((show Sep ([]++(HsA hb 10 (3100) none::R)) G15 from h15)) ?_)
 rintro _ _ G16 ⟨rfl,rfl⟩ h16
 have h16:Sep (HsA hb 10 (3100) none::R) G16:=h16
 refine goS trivial ?_
 refine goR (nn f43 (nn f13 f31)) ?_
 (refine goM (d13 hb (3100) (by omega)) (h16) ?_)
 rintro _ _ G17 ⟨rfl,rfl⟩ h17
 have h17:Sep (HsA hb 10 (3300) (some enL)::R) G17:=Sep.hs_mono (by omega) h17
 clear h16
 refine goS trivial ?_
 refine goR (nn f43 (nn f13 f31)) ?_
 (refine goM (d14 hb (3300) (by omega)) (h17) ?_)
 rintro _ _ G18 ⟨rfl,rfl⟩ h18
 have h18:Sep (HsA hb 10 (3500) (some enL)::R) G18:=Sep.hs_mono (by omega) h18
 clear h17
 refine goS trivial ?_
 refine goR trivial ?_
 refine goC (zxa rfC) ?_
 refine goS trivial ?_
 refine goR trivial ?_
 exact Fin.eq rfl ⟨rfl,_,⟨rfl,rfl⟩,h18.tail⟩
end Go.Proofs.Ytailhmffljoojaa
