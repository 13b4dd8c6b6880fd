/- Each function told by its native program; written by gen.py. -/
import Derived.Test.YtcccpkohlkfhoaaScanAtS0
namespace Go.VE
open Go.Proofs
noncomputable section
set_option linter.unusedVariables false
set_option linter.unusedSimpArgs false
set_option maxRecDepth 100000
def vvt:Nat→Option LoopSpec
 |_=>none
theorem v3i:vae Try.prog 24 v1b:=
 vc4 G0_ok follows (Try.f24.body.getD .skip) Try.func24 (by kernel_rfl) fun p q=>⟨vvt,(n15n_p _ _).p.map _,by rw [vx2];kernel_rfl,vah (ids:=[]) (by kernel_rfl) (by kernel_rfl) trivial⟩
def G1:Glob:=G0.add 24 v1b
theorem G1_ok:GlobOk Try.prog G1:=G0_ok.add ⟨Try.f24,Try.func24,by kernel_rfl,by kernel_rfl⟩ v3i
def vku:q12T→List AV:=fun x=>[.lst tVersion x.1,.i x.2.1,.i x.2.2.1,.i x.2.2.2]
def vl6:q12T→St:=fun x=>[]
def vm9:Nat→Option LoopSpec
 |0=>some (lpS [0,1,4,5] [] [.lst tVersion,.i,.i,.i] [] vf1 (fun p q=>(p.1,p.2.1,p.2.2.1,p.2.2.2.1)) (fun k=>(Sum.elim (onE (exZ .ret vku vl6) k) (onE (exZ (.exit 0) vku vl6) k))))
 |_=>none
theorem vyv:LpAt G1 ⟨0,27,vm9⟩ Try.f6 0:=
 vbm rfl (fun x=>(n16n_bp0 x).p) vku vl6 (Sum.elim ((exZ .ret vku vl6)) ((exZ (.exit 0) vku vl6))) (fun _ _=>⟨rfl,rfl⟩) (fun z=>by rcases z with z|z<;>(intro h;cases h)) (fun k z=>by rcases z with z|z<;>rfl) (fun x=>by kernel_rfl)
theorem v2j:vae Try.prog 6 v04:=
 vc4 G1_ok follows (Try.f6.body.getD .skip) Try.func6 (by kernel_rfl) fun p q=>⟨vm9,(n16n_p _ _).p.map _,by rw [vwa];kernel_rfl,vah (ids:=[0]) (by kernel_rfl) (by kernel_rfl) ⟨vyv,trivial⟩⟩
def G2:Glob:=G1.add 6 v04
theorem G2_ok:GlobOk Try.prog G2:=G1_ok.add ⟨Try.f6,Try.func6,by kernel_rfl,by kernel_rfl⟩ v2j
def vv0:Nat→Option LoopSpec
 |_=>none
theorem v2v:vae Try.prog 7 v0m:=
 vc4 G2_ok follows (Try.f7.body.getD .skip) Try.func7 (by kernel_rfl) fun p q=>⟨vv0,(n14n_p _ _).p.map _,by rw [vxo];kernel_rfl,vah (ids:=[]) (by kernel_rfl) (by kernel_rfl) trivial⟩
def G3:Glob:=G2.add 7 v0m
theorem G3_ok:GlobOk Try.prog G3:=G2_ok.add ⟨Try.f7,Try.func7,by kernel_rfl,by kernel_rfl⟩ v2v
def vvh:Nat→Option LoopSpec
 |_=>none
theorem v3q:vae Try.prog 27 v06:=
 vc4 G3_ok follows (Try.f27.body.getD .skip) Try.func27 (by kernel_rfl) fun p q=>⟨vvh,(n18n_p _).p.map _,by rw [vv7];kernel_rfl,vah (ids:=[]) (by kernel_rfl) (by kernel_rfl) trivial⟩
def G4:Glob:=G3.add 27 v06
theorem G4_ok:GlobOk Try.prog G4:=G3_ok.add ⟨Try.f27,Try.func27,by kernel_rfl,by kernel_rfl⟩ v3q
def vsd:q5T→List AV:=fun x=>[.lst tVersion x.1,.own 0,.i x.2.1]
def vsg:q5T→St:=fun x=>[.arr tVersion x.2.2]
def vny:Nat→Option LoopSpec
 |0=>some (lpS [0,3,4] [] [.lst tVersion,.own 0,.i] [.arr tVersion] vgv (fun p q=>(p.1,p.2.2.1,q.1)) (fun k=>(onE (exZ (.exit 0) vsd vsg) k)))
 |_=>none
theorem vz9:LpAt G4 ⟨0,23,vny⟩ Try.f9 0:=
 vbm rfl (fun x=>(n19n_bp0 x).p) vsd vsg (exZ (.exit 0) vsd vsg) (fun _ _=>⟨rfl,rfl⟩) (fun z=>by(intro h;cases h)) (fun _ _=>rfl) (fun x=>by kernel_rfl)
theorem v26:vae Try.prog 9 v03:=
 vc4 G4_ok follows (Try.f9.body.getD .skip) Try.func9 (by kernel_rfl) fun p q=>⟨vny,(n19n_p _).p.map _,by rw [vx7];kernel_rfl,vah (ids:=[0]) (by kernel_rfl) (by kernel_rfl) ⟨vz9,trivial⟩⟩
def G5:Glob:=G4.add 9 v03
theorem G5_ok:GlobOk Try.prog G5:=G4_ok.add ⟨Try.f9,Try.func9,by kernel_rfl,by kernel_rfl⟩ v26
def vu1:Nat→Option LoopSpec
 |_=>none
theorem v2f:vae Try.prog 10 v0j:=
 vc4 G5_ok follows (Try.f10.body.getD .skip) Try.func10 (by kernel_rfl) fun p q=>⟨vu1,(n17n_p _).p.map _,by rw [vwy];kernel_rfl,vah (ids:=[]) (by kernel_rfl) (by kernel_rfl) trivial⟩
def G6:Glob:=G5.add 10 v0j
theorem G6_ok:GlobOk Try.prog G6:=G5_ok.add ⟨Try.f10,Try.func10,by kernel_rfl,by kernel_rfl⟩ v2f
def vvo:Nat→Option LoopSpec
 |_=>none
theorem v2o:vae Try.prog 50 v0n:=
 vc4 G6_ok.shallow follows (Try.f50.body.getD .skip) Try.func50 (by kernel_rfl) fun p q=>⟨vvo,(n22n_p _ _).p.map _,by rw [vv9];kernel_rfl,vah (ids:=[]) (by kernel_rfl) (by kernel_rfl) trivial⟩
def G7:Glob:=G6.add 50 v0n
theorem G7_ok:GlobOk Try.prog G7:=G6_ok.add ⟨Try.f50,Try.func50,by kernel_rfl,by kernel_rfl⟩ v2o
def vth:q8T→List AV:=fun x=>[.lst tVersion x.1,.bp 0 0,.own 1,.i x.2.1,.str x.2.2.1,.own 2,.i x.2.2.2.1]
def vr2:q8T→St:=fun x=>[.box [.str x.2.2.2.2.1,.str x.2.2.2.2.2.1],.arr .str x.2.2.2.2.2.2.1,.arr .str x.2.2.2.2.2.2.2]
def vsu:q8T→List AV:=fun x=>[.lst tVersion x.1,.bp 0 0,.own 1,.i x.2.1,.str x.2.2.1,.own 2,.i x.2.2.2.1]
def vsq:q8T→St:=fun x=>[.box [.str x.2.2.2.2.1,.str x.2.2.2.2.2.1],.arr .str x.2.2.2.2.2.2.1,.arr .str x.2.2.2.2.2.2.2]
def vsk:q7T→List AV:=fun x=>[.lst tVersion x.1,.bp 0 0,.own 1,.i x.2.1]
def vtg:q7T→St:=fun x=>[.box [.str x.2.2.1,.str x.2.2.2.1],.arr .str x.2.2.2.2]
def vhc:Nat→Option LoopSpec
 |2=>some (lpS [0,3,5,6,7,8,9] [] [.lst tVersion,.bp 0 0,.own 1,.i,.str,.own 2,.i] [.box [.str,.str],.arr .str,.arr .str] vgt (fun p q=>(p.1,p.2.2.2.1,p.2.2.2.2.1,p.2.2.2.2.2.2.1,q.1.1,q.1.2.1,q.2.1,q.2.2.1)) (fun k=>(onE (exZ (.exit 2) vth vr2) k)))
 |4=>some (lpS [0,3,5,6,7,8,10] [] [.lst tVersion,.bp 0 0,.own 1,.i,.str,.own 2,.i] [.box [.str,.str],.arr .str,.arr .str] vgu (fun p q=>(p.1,p.2.2.2.1,p.2.2.2.2.1,p.2.2.2.2.2.2.1,q.1.1,q.1.2.1,q.2.1,q.2.2.1)) (fun k=>(onE (exZ (.exit 4) vsu vsq) k)))
 |0=>some (lpS [0,3,5,6] [] [.lst tVersion,.bp 0 0,.own 1,.i] [.box [.str,.str],.arr .str] vgw (fun p q=>(p.1,p.2.2.2.1,q.1.1,q.1.2.1,q.2.1)) (fun k=>(onE (exZ (.exit 0) vsk vtg) k)))
 |_=>none
theorem v0b:LpAt G7.shallow ⟨0,72,vhc⟩ Try.f25 2:=
 vbm rfl (fun x=>(n26n_bp2 x).p) vth vr2 (exZ (.exit 2) vth vr2) (fun _ _=>⟨rfl,rfl⟩) (fun z=>by(intro h;cases h)) (fun _ _=>rfl) (fun x=>by kernel_rfl)
theorem vys:LpAt G7.shallow ⟨0,72,vhc⟩ Try.f25 4:=
 vbm rfl (fun x=>(n26n_bp4 x).p) vsu vsq (exZ (.exit 4) vsu vsq) (fun _ _=>⟨rfl,rfl⟩) (fun z=>by(intro h;cases h)) (fun _ _=>rfl) (fun x=>by kernel_rfl)
theorem vze:LpAt G7.shallow ⟨0,72,vhc⟩ Try.f25 0:=
 vbm rfl (fun x=>(n26n_bp0 x).p) vsk vtg (exZ (.exit 0) vsk vtg) (fun _ _=>⟨rfl,rfl⟩) (fun z=>by(intro h;cases h)) (fun _ _=>rfl) (fun x=>by kernel_rfl)
theorem v28:vae Try.prog 25 v0l:=
 vc4 G7_ok.shallow follows (Try.f25.body.getD .skip) Try.func25 (by kernel_rfl) fun p q=>⟨vhc,(n26n_p _ _).p.map _,by rw [vv5];kernel_rfl,vah (ids:=[2,4,0]) (by kernel_rfl) (by kernel_rfl) ⟨v0b,⟨vys,⟨vze,trivial⟩⟩⟩⟩
def G8:Glob:=G7.add 25 v0l
theorem G8_ok:GlobOk Try.prog G8:=G7_ok.add ⟨Try.f25,Try.func25,by kernel_rfl,by kernel_rfl⟩ v28
def vsb:q4T→List AV:=fun x=>[.lst tVersion x.1,.str x.2.1,.i x.2.2.1,.i x.2.2.2.1,.i x.2.2.2.2]
def vs6:q4T→St:=fun x=>[]
def vna:Nat→Option LoopSpec
 |0=>some (lpS [0,1,2,7,8] [] [.lst tVersion,.str,.i,.i,.i] [] vgs (fun p q=>(p.1,p.2.1,p.2.2.1,p.2.2.2.1,p.2.2.2.2.1)) (fun k=>(onE (exZ (.exit 0) vsb vs6) k)))
 |2000005=>some ⟨[0,2,4,6,8,10,12,14,16,18,20,22,24,26,28,30,32,34,36,38,40,42,44,46,48,50,52,54,56,58,60,62,64],[],fun _ _ _=>none⟩
 |_=>none
theorem v0a:LpAt G8.shallow ⟨0,50,vna⟩ Try.f51 0:=
 vbm rfl (fun x=>(n25n_bp0 x).p) vsb vs6 (exZ (.exit 0) vsb vs6) (fun _ _=>⟨rfl,rfl⟩) (fun z=>by(intro h;cases h)) (fun _ _=>rfl) (fun x=>by kernel_rfl)
theorem v22:vae Try.prog 51 v05:=
 vc4 G8_ok.shallow follows (Try.f51.body.getD .skip) Try.func51 (by kernel_rfl) fun p q=>⟨vna,(n25n_p _ _ _).p.map _,by rw [vx8];kernel_rfl,vah (ids:=[0]) (by kernel_rfl) (by kernel_rfl) ⟨v0a,trivial⟩⟩
def G9:Glob:=G8.add 51 v05
theorem G9_ok:GlobOk Try.prog G9:=G8_ok.add ⟨Try.f51,Try.func51,by kernel_rfl,by kernel_rfl⟩ v22
def vvw:Nat→Option LoopSpec
 |_=>none
theorem v2h:vae Try.prog 26 v0u:=
 vc4 G9_ok.shallow follows (Try.f26.body.getD .skip) Try.func26 (by kernel_rfl) fun p q=>⟨vvw,(n24n_p _ _ _).p.map _,by rw [vwi];kernel_rfl,vah (ids:=[]) (by kernel_rfl) (by kernel_rfl) trivial⟩
def G10:Glob:=G9.add 26 v0u
theorem G10_ok:GlobOk Try.prog G10:=G9_ok.add ⟨Try.f26,Try.func26,by kernel_rfl,by kernel_rfl⟩ v2h
def vsz:q10T→List AV:=fun x=>[.lst tVersion x.1,.i x.2.1,.own 0,.own 1,.i x.2.2.1]
def vti:q10T→St:=fun x=>[.arr tRange x.2.2.2.1,.arr .str x.2.2.2.2]
def vnh:Nat→Option LoopSpec
 |0=>some (lpS [0,2,7,8,9] [] [.lst tVersion,.i,.own 0,.own 1,.i] [.arr tRange,.arr .str] vfy (fun p q=>(p.1,p.2.1,p.2.2.2.2.1,q.1,q.2.1)) (fun k=>(onE (exZ (.exit 0) vsz vti) k)))
 |_=>none
theorem vy0:LpAt G10.shallow ⟨0,43,vnh⟩ Try.f8 0:=
 vbm rfl (fun x=>(n23n_bp0 x).p) vsz vti (exZ (.exit 0) vsz vti) (fun _ _=>⟨rfl,rfl⟩) (fun z=>by(intro h;cases h)) (fun _ _=>rfl) (fun x=>by kernel_rfl)
theorem v3m:vae Try.prog 8 v0t:=
 vc4 G10_ok.shallow follows (Try.f8.body.getD .skip) Try.func8 (by kernel_rfl) fun p q=>⟨vnh,(n23n_p _ _ _).p.map _,by rw [vwu];kernel_rfl,vah (ids:=[0]) (by kernel_rfl) (by kernel_rfl) ⟨vy0,trivial⟩⟩
def G11:Glob:=G10.add 8 v0t
theorem G11_ok:GlobOk Try.prog G11:=G10_ok.add ⟨Try.f8,Try.func8,by kernel_rfl,by kernel_rfl⟩ v3m
theorem vhf:vae Try.prog 52 vb4:=by
 intro args s k r hk
 unfold vb4 at hk
 rw [vwl]at hk
 unfold vpp at hk
 have e:Try.laysSort_ren.f 190=52:=by kernel_rfl
 exact e▸vn5 Try.laysSort args s k r hk
def G12:Glob:=G11.add 52 vb4
theorem G12_ok:GlobOk Try.prog G12:=G11_ok.add ⟨Try.f52,Try.func52,by kernel_rfl,by kernel_rfl⟩ vhf
def vr6:(Int×Nat×Int×(List ByteArray))→List AV:=fun x=>[.own 0,.i x.1,.win 0 x.2.1,.i x.2.2.1]
def vsv:(Int×Nat×Int×(List ByteArray))→St:=fun x=>[.arr .str x.2.2.2]
def vso:q14T→List AV:=fun x=>[.own 0,.own 1,.i x.1]
def vsp:q14T→St:=fun x=>[.arr .str x.2.1,.arr .str x.2.2]
def vtz:(Int×(List ByteArray))→Out×List AV×St:=fun z=>(.ret,[.own 0,.own 1,.i z.1],[.gone,.arr .str z.2])
def vjn:Nat→Option LoopSpec
 |2=>some (lpS [0,3,4,5] [] [.own 0,.i,.win 0,.i] [.arr .str] vfc (fun p q=>(p.2.1,p.2.2.1,p.2.2.2.1,q.1)) (fun k=>(onE (exZ (.exit 2) vr6 vsv) k)))
 |0=>some (lpS [0,2,3] [none,some .str] [.own 0,.own 1,.i] [.arr .str,.arr .str] vek (fun p q=>(p.2.2.1,q.1,q.2.1)) (fun k=>(Sum.elim (onE (exZ (.exit 0) vso vsp) k) (onE vtz k))))
 |2000006=>some ⟨[0,2,4,6,8,10,12,14,16,18],[],fun _ _ _=>none⟩
 |2000011=>some ⟨[0,2,4,6,8,10,12,14,16,18],[],fun _ _ _=>none⟩
 |_=>none
theorem vy3:LpAt G12 ⟨1,61,vjn⟩ Try.f53 2:=
 vbm rfl (fun x=>(n20n_bp2 x).p) vr6 vsv (exZ (.exit 2) vr6 vsv) (fun _ _=>⟨rfl,rfl⟩) (fun z=>by(intro h;cases h)) (fun _ _=>rfl) (fun x=>by kernel_rfl)
theorem vyr:LpAt G12 ⟨1,61,vjn⟩ Try.f53 0:=
 vbm rfl (fun x=>(n20n_bp0 x).p) vso vsp (Sum.elim ((exZ (.exit 0) vso vsp)) (vtz)) (fun _ _=>⟨rfl,rfl⟩) (fun z=>by rcases z with z|z<;>(intro h;cases h)) (fun k z=>by rcases z with z|z<;>rfl) (fun x=>by kernel_rfl)
theorem vfa:vae Try.prog 53 vcj:=
 vc4 G12_ok follows (Try.f53.body.getD .skip) Try.func53 (by kernel_rfl) fun p q=>⟨vjn,(n20n_p _).p.map2 _ _,by rw [vwd];kernel_rfl,vah (ids:=[2,0]) (by kernel_rfl) (by kernel_rfl) ⟨vy3,⟨vyr,trivial⟩⟩⟩
def G13:Glob:=G12.add 53 vcj
theorem G13_ok:GlobOk Try.prog G13:=G12_ok.add ⟨Try.f53,Try.func53,by kernel_rfl,by kernel_rfl⟩ vfa
def vr7:q9T→List AV:=fun x=>[.own 0,.lst tVersion x.1,.i x.2.1,.i x.2.2.1]
def vs5:q9T→St:=fun x=>[.arr .str x.2.2.2]
def vnk:Nat→Option LoopSpec
 |0=>some (lpS [3,6,7,8] [some .str] [.own 0,.lst tVersion,.i,.i] [.arr .str] vgx (fun p q=>(p.2.1,p.2.2.1,p.2.2.2.1,q.1)) (fun k=>(onE (exZ (.exit 0) vr7 vs5) k)))
 |_=>none
theorem vzy:LpAt G13 ⟨0,22,vnk⟩ Try.f28 0:=
 vbm rfl (fun x=>(n03n_bp0 x).p) vr7 vs5 (exZ (.exit 0) vr7 vs5) (fun _ _=>⟨rfl,rfl⟩) (fun z=>by(intro h;cases h)) (fun _ _=>rfl) (fun x=>by kernel_rfl)
theorem v25:vae Try.prog 28 v0w:=
 vc4 G13_ok follows (Try.f28.body.getD .skip) Try.func28 (by kernel_rfl) fun p q=>⟨vnk,(n03n_p _).p.map _,by rw [vx0];kernel_rfl,vah (ids:=[0]) (by kernel_rfl) (by kernel_rfl) ⟨vzy,trivial⟩⟩
def G14:Glob:=G13.add 28 v0w
theorem G14_ok:GlobOk Try.prog G14:=G13_ok.add ⟨Try.f28,Try.func28,by kernel_rfl,by kernel_rfl⟩ v25
def vs9:q3T→List AV:=fun x=>[.lst tVersion x.1,.str x.2.1,.i x.2.2.1,.i x.2.2.2.1,.lst tVersion x.2.2.2.2.1,.i x.2.2.2.2.2.1,.i x.2.2.2.2.2.2]
def vsa:q3T→St:=fun x=>[]
def vmu:Nat→Option LoopSpec
 |0=>some (lpS [0,1,2,7,10,11,12] [] [.lst tVersion,.str,.i,.i,.lst tVersion,.i,.i] [] vgb (fun p q=>(p.1,p.2.1,p.2.2.1,p.2.2.2.1,p.2.2.2.2.1,p.2.2.2.2.2.1,p.2.2.2.2.2.2.1)) (fun k=>(onE (exZ (.exit 0) vs9 vsa) k)))
 |2000005=>some ⟨[0,2,4,6,8,10,12,14,16,18,20,22,24,26,28,30,32,34,36,38,40,42,44,46],[],fun _ _ _=>none⟩
 |_=>none
theorem vzh:LpAt G14 ⟨0,44,vmu⟩ Try.f54 0:=
 vbm rfl (fun x=>(n04n_bp0 x).p) vs9 vsa (exZ (.exit 0) vs9 vsa) (fun _ _=>⟨rfl,rfl⟩) (fun z=>by(intro h;cases h)) (fun _ _=>rfl) (fun x=>by kernel_rfl)
theorem v3c:vae Try.prog 54 v00:=
 vc4 G14_ok follows (Try.f54.body.getD .skip) Try.func54 (by kernel_rfl) fun p q=>⟨vmu,(n04n_p _ _ _).p.map _,by rw [vx3];kernel_rfl,vah (ids:=[0]) (by kernel_rfl) (by kernel_rfl) ⟨vzh,trivial⟩⟩
def G15:Glob:=G14.add 54 v00
theorem G15_ok:GlobOk Try.prog G15:=G14_ok.add ⟨Try.f54,Try.func54,by kernel_rfl,by kernel_rfl⟩ v3c
def vvz:Nat→Option LoopSpec
 |_=>none
theorem v29:vae Try.prog 29 v0z:=
 vc4 G15_ok follows (Try.f29.body.getD .skip) Try.func29 (by kernel_rfl) fun p q=>⟨vvz,(n02n_p _ _ _).p.map _,by rw [vyg];kernel_rfl,vah (ids:=[]) (by kernel_rfl) (by kernel_rfl) trivial⟩
def G16:Glob:=G15.add 29 v0z
theorem G16_ok:GlobOk Try.prog G16:=G15_ok.add ⟨Try.f29,Try.func29,by kernel_rfl,by kernel_rfl⟩ v29
def vv1:Nat→Option LoopSpec
 |_=>none
theorem v2p:vae Try.prog 30 v02:=
 vc4 G16_ok follows (Try.f30.body.getD .skip) Try.func30 (by kernel_rfl) fun p q=>⟨vv1,(n00n_p _ _).p.map _,by rw [vyc];kernel_rfl,vah (ids:=[]) (by kernel_rfl) (by kernel_rfl) trivial⟩
def G17:Glob:=G16.add 30 v02
theorem G17_ok:GlobOk Try.prog G17:=G16_ok.add ⟨Try.f30,Try.func30,by kernel_rfl,by kernel_rfl⟩ v2p
def vsx:q11T→List AV:=fun x=>[.lst tVersion x.1,.i x.2.1,.bp 0 0,.own 1,.own 2,.i x.2.2.1,.i x.2.2.2.1]
def vsf:q11T→St:=fun x=>[.box [.str x.2.2.2.2.1,.str x.2.2.2.2.2.1],.arr tRange x.2.2.2.2.2.2.1,.arr .str x.2.2.2.2.2.2.2]
def vm2:Nat→Option LoopSpec
 |0=>some (lpS [0,2,4,7,13,14,15] [none,none,none,some tRange] [.lst tVersion,.i,.bp 0 0,.own 1,.own 2,.i,.i] [.box [.str,.str],.arr tRange,.arr .str] vfn (fun p q=>(p.1,p.2.1,p.2.2.2.2.2.1,p.2.2.2.2.2.2.1,q.1.1,q.1.2.1,q.2.1,q.2.2.1)) (fun k=>(onE (exZ (.exit 0) vsx vsf) k)))
 |_=>none
theorem vzk:LpAt G17 ⟨0,40,vm2⟩ Try.f11 0:=
 vbm rfl (fun x=>(n01n_bp0 x).p) vsx vsf (exZ (.exit 0) vsx vsf) (fun _ _=>⟨rfl,rfl⟩) (fun z=>by(intro h;cases h)) (fun _ _=>rfl) (fun x=>by kernel_rfl)
theorem v2q:vae Try.prog 11 v0q:=
 vc4 G17_ok follows (Try.f11.body.getD .skip) Try.func11 (by kernel_rfl) fun p q=>⟨vm2,(n01n_p _ _ _).p.map _,by rw [vwk];kernel_rfl,vah (ids:=[0]) (by kernel_rfl) (by kernel_rfl) ⟨vzk,trivial⟩⟩
def G18:Glob:=G17.add 11 v0q
theorem G18_ok:GlobOk Try.prog G18:=G17_ok.add ⟨Try.f11,Try.func11,by kernel_rfl,by kernel_rfl⟩ v2q
def vu4:Nat→Option LoopSpec
 |_=>none
theorem v21:vae Try.prog 31 v08:=
 vc4 G18_ok follows (Try.f31.body.getD .skip) Try.func31 (by kernel_rfl) fun p q=>⟨vu4,(n06n_p _ _).p.map _,by rw [vw4];kernel_rfl,vah (ids:=[]) (by kernel_rfl) (by kernel_rfl) trivial⟩
def G19:Glob:=G18.add 31 v08
theorem G19_ok:GlobOk Try.prog G19:=G18_ok.add ⟨Try.f31,Try.func31,by kernel_rfl,by kernel_rfl⟩ v21
def vl4:q0T→List AV:=fun x=>[.lst tRange x.1,.lst tRange x.2.1,.bool x.2.2.1,.i x.2.2.2]
def vk1:q0T→St:=fun x=>[]
def vnf:Nat→Option LoopSpec
 |0=>some (lpS [0,1,4,5] [] [.lst tRange,.lst tRange,.bool,.i] [] vgi (fun p q=>(p.1,p.2.1,p.2.2.1,p.2.2.2.1)) (fun k=>(Sum.elim (onE (exZ .ret vl4 vk1) k) (onE (exZ (.exit 0) vl4 vk1) k))))
 |2000006=>some ⟨[0,2,4,6,8,10,12,14,16,18],[],fun _ _ _=>none⟩
 |_=>none
theorem v0c:LpAt G19 ⟨0,27,vnf⟩ Try.f12 0:=
 vbm rfl (fun x=>(n07n_bp0 x).p) vl4 vk1 (Sum.elim ((exZ .ret vl4 vk1)) ((exZ (.exit 0) vl4 vk1))) (fun _ _=>⟨rfl,rfl⟩) (fun z=>by rcases z with z|z<;>(intro h;cases h)) (fun k z=>by rcases z with z|z<;>rfl) (fun x=>by kernel_rfl)
theorem v2g:vae Try.prog 12 v1a:=
 vc4 G19_ok follows (Try.f12.body.getD .skip) Try.func12 (by kernel_rfl) fun p q=>⟨vnf,(n07n_p _ _).p.map _,by rw [vyl];kernel_rfl,vah (ids:=[0]) (by kernel_rfl) (by kernel_rfl) ⟨v0c,trivial⟩⟩
def G20:Glob:=G19.add 12 v1a
theorem G20_ok:GlobOk Try.prog G20:=G19_ok.add ⟨Try.f12,Try.func12,by kernel_rfl,by kernel_rfl⟩ v2g
def vvf:Nat→Option LoopSpec
 |_=>none
theorem v3l:vae Try.prog 32 v0k:=
 vc4 G20_ok follows (Try.f32.body.getD .skip) Try.func32 (by kernel_rfl) fun p q=>⟨vvf,(n08n_p _ _).p.map _,by rw [vxn];kernel_rfl,vah (ids:=[]) (by kernel_rfl) (by kernel_rfl) trivial⟩
def G21:Glob:=G20.add 32 v0k
theorem G21_ok:GlobOk Try.prog G21:=G20_ok.add ⟨Try.f32,Try.func32,by kernel_rfl,by kernel_rfl⟩ v3l
def vk6:q2T→List AV:=fun x=>[.lst tVersion x.1,.lst tVersion x.2.1,.bool x.2.2.1,.i x.2.2.2]
def vlf:q2T→St:=fun x=>[]
def vnm:Nat→Option LoopSpec
 |0=>some (lpS [0,1,4,5] [] [.lst tVersion,.lst tVersion,.bool,.i] [] vgr (fun p q=>(p.1,p.2.1,p.2.2.1,p.2.2.2.1)) (fun k=>(Sum.elim (onE (exZ .ret vk6 vlf) k) (onE (exZ (.exit 0) vk6 vlf) k))))
 |2000006=>some ⟨[0,2,4,6,8,10,12,14,16,18],[],fun _ _ _=>none⟩
 |_=>none
theorem vz3:LpAt G21 ⟨0,27,vnm⟩ Try.f13 0:=
 vbm rfl (fun x=>(n09n_bp0 x).p) vk6 vlf (Sum.elim ((exZ .ret vk6 vlf)) ((exZ (.exit 0) vk6 vlf))) (fun _ _=>⟨rfl,rfl⟩) (fun z=>by rcases z with z|z<;>(intro h;cases h)) (fun k z=>by rcases z with z|z<;>rfl) (fun x=>by kernel_rfl)
theorem v3a:vae Try.prog 13 v01:=
 vc4 G21_ok follows (Try.f13.body.getD .skip) Try.func13 (by kernel_rfl) fun p q=>⟨vnm,(n09n_p _ _).p.map _,by rw [vwm];kernel_rfl,vah (ids:=[0]) (by kernel_rfl) (by kernel_rfl) ⟨vz3,trivial⟩⟩
def G22:Glob:=G21.add 13 v01
theorem G22_ok:GlobOk Try.prog G22:=G21_ok.add ⟨Try.f13,Try.func13,by kernel_rfl,by kernel_rfl⟩ v3a
def vss:(Int×ByteArray)→List AV:=fun x=>[.i x.1,.str x.2]
def vru:(Int×ByteArray)→St:=fun x=>[]
def vn1:Nat→Option LoopSpec
 |0=>some (lpS [0,3] [] [.i,.str] [] vid (fun p q=>(p.1,p.2.1)) (fun k=>(onE (exZ (.exit 0) vss vru) k)))
 |_=>none
theorem vzp:LpAt G22 ⟨0,20,vn1⟩ Try.f33 0:=
 vbm rfl (fun x=>(n12n_bp0 x).p) vss vru (exZ (.exit 0) vss vru) (fun _ _=>⟨rfl,rfl⟩) (fun z=>by(intro h;cases h)) (fun _ _=>rfl) (fun x=>by kernel_rfl)
theorem v2k:vae Try.prog 33 v0y:=
 vc4 G22_ok follows (Try.f33.body.getD .skip) Try.func33 (by kernel_rfl) fun p q=>⟨vn1,(n12n_p _).p.map _,by rw [vxv];kernel_rfl,vah (ids:=[0]) (by kernel_rfl) (by kernel_rfl) ⟨vzp,trivial⟩⟩
def G23:Glob:=G22.add 33 v0y
theorem G23_ok:GlobOk Try.prog G23:=G22_ok.add ⟨Try.f33,Try.func33,by kernel_rfl,by kernel_rfl⟩ v2k
def vsj:(Int×Int×(List vaa))→List AV:=fun x=>[.own 0,.i x.1,.i x.2.1]
def vsw:(Int×Int×(List vaa))→St:=fun x=>[.arr tVersion x.2.2]
def vni:Nat→Option LoopSpec
 |0=>some (lpS [0,1,5] [] [.own 0,.i,.i] [.arr tVersion] vgp (fun p q=>(p.2.1,p.2.2.1,q.1)) (fun k=>(onE (exZ (.exit 0) vsj vsw) k)))
 |_=>none
theorem vz1:LpAt G23 ⟨1,45,vni⟩ Try.f14 0:=
 vbm rfl (fun x=>(n13n_bp0 x).p) vsj vsw (exZ (.exit 0) vsj vsw) (fun _ _=>⟨rfl,rfl⟩) (fun z=>by(intro h;cases h)) (fun _ _=>rfl) (fun x=>by kernel_rfl)
theorem vhw:vae Try.prog 14 vd2:=
 vc4 G23_ok follows (Try.f14.body.getD .skip) Try.func14 (by kernel_rfl) fun p q=>⟨vni,(n13n_p _ _).p.map _,by rw [vxf];kernel_rfl,vah (ids:=[0]) (by kernel_rfl) (by kernel_rfl) ⟨vz1,trivial⟩⟩
def G24:Glob:=G23.add 14 vd2
theorem G24_ok:GlobOk Try.prog G24:=G23_ok.add ⟨Try.f14,Try.func14,by kernel_rfl,by kernel_rfl⟩ vhw
def vrv:(Int×Int×(List vaf))→List AV:=fun x=>[.own 0,.i x.1,.i x.2.1]
def vsh:(Int×Int×(List vaf))→St:=fun x=>[.arr tRange x.2.2]
def vmm:Nat→Option LoopSpec
 |0=>some (lpS [0,1,5] [] [.own 0,.i,.i] [.arr tRange] vhs (fun p q=>(p.2.1,p.2.2.1,q.1)) (fun k=>(onE (exZ (.exit 0) vrv vsh) k)))
 |_=>none
theorem vz5:LpAt G24 ⟨1,29,vmm⟩ Try.f15 0:=
 vbm rfl (fun x=>(n11n_bp0 x).p) vrv vsh (exZ (.exit 0) vrv vsh) (fun _ _=>⟨rfl,rfl⟩) (fun z=>by(intro h;cases h)) (fun _ _=>rfl) (fun x=>by kernel_rfl)
theorem vkk:vae Try.prog 15 vfu:=
 vc4 G24_ok follows (Try.f15.body.getD .skip) Try.func15 (by kernel_rfl) fun p q=>⟨vmm,(n11n_p _ _).p.map _,by rw [vxy];kernel_rfl,vah (ids:=[0]) (by kernel_rfl) (by kernel_rfl) ⟨vz5,trivial⟩⟩
def G25:Glob:=G24.add 15 vfu
theorem G25_ok:GlobOk Try.prog G25:=G24_ok.add ⟨Try.f15,Try.func15,by kernel_rfl,by kernel_rfl⟩ vkk
def vly:q1T→List AV:=fun x=>[.lst tRange x.1,.i x.2.1,.i x.2.2.1,.i x.2.2.2]
def vl7:q1T→St:=fun x=>[]
def vnv:Nat→Option LoopSpec
 |0=>some (lpS [0,1,4,5] [] [.lst tRange,.i,.i,.i] [] vf4 (fun p q=>(p.1,p.2.1,p.2.2.1,p.2.2.2.1)) (fun k=>(Sum.elim (onE (exZ .ret vly vl7) k) (onE (exZ (.exit 0) vly vl7) k))))
 |2000004=>some ⟨[0,2,4,6,8,10,13,14],[],fun _ _ _=>none⟩
 |2000007=>some ⟨[0,2,4,6,8,10,13,14],[],fun _ _ _=>none⟩
 |_=>none
theorem vzr:LpAt G25 ⟨0,33,vnv⟩ Try.f16 0:=
 vbm rfl (fun x=>(n10n_bp0 x).p) vly vl7 (Sum.elim ((exZ .ret vly vl7)) ((exZ (.exit 0) vly vl7))) (fun _ _=>⟨rfl,rfl⟩) (fun z=>by rcases z with z|z<;>(intro h;cases h)) (fun k z=>by rcases z with z|z<;>rfl) (fun x=>by kernel_rfl)
theorem v3h:vae Try.prog 16 v09:=
 vc4 G25_ok follows (Try.f16.body.getD .skip) Try.func16 (by kernel_rfl) fun p q=>⟨vnv,(n10n_p _ _).p.map _,by rw [vwo];kernel_rfl,vah (ids:=[0]) (by kernel_rfl) (by kernel_rfl) ⟨vzr,trivial⟩⟩
def G26:Glob:=G25.add 16 v09
theorem G26_ok:GlobOk Try.prog G26:=G25_ok.add ⟨Try.f16,Try.func16,by kernel_rfl,by kernel_rfl⟩ v3h
def veq:q6T→List AV:=fun x=>[.lst tVersion x.1,.i x.2.1,.bp 0 0,.bool x.2.2.1,.own 1,.own 2]
def vem:q6T→St:=fun x=>[.box [.str x.2.2.2.1,.str x.2.2.2.2.1],.arr tRange x.2.2.2.2.2.1,.arr tRange x.2.2.2.2.2.2]
def vmp:Nat→Option LoopSpec
 |5000019=>some (ctS [0,2,4,6,8,10] [] [.lst tVersion,.i,.bp 0 0,.bool,.own 1,.own 2] [.box [.str,.str],.arr tRange,.arr tRange] vb0 (fun p q=>(p.1,p.2.1,p.2.2.2.1,q.1.1,q.1.2.1,q.2.1,q.2.2.1)) (fun k=>(onE (exZ .ret veq vem) k)))
 |_=>none
theorem vmj:CtAt G26 ⟨0,87,vmp⟩ Try.f3 5000019:=
 v2r rfl (fun x=>(n05n_jp5000019 x).p) veq vem (exZ .ret veq vem) (fun _ _=>⟨rfl,rfl⟩) (fun _ _=>rfl) (fun x=>by kernel_rfl)
theorem v0r:vae Try.prog 3 vx1:=
 vc4 G26_ok follows (Try.f3.body.getD .skip) Try.func3 (by kernel_rfl) fun p q=>⟨vmp,(n05n_p _ _ _).p.map _,by rw [vyh];kernel_rfl,vah (ids:=[5000019]) (by kernel_rfl) (by kernel_rfl) ⟨vmj,trivial⟩⟩
def G27:Glob:=G26.add 3 vx1
theorem v30:GlobOk Try.prog G27:=G26_ok.add ⟨Try.f3,Try.func3,by kernel_rfl,by kernel_rfl⟩ v0r
end
end Go.VE
