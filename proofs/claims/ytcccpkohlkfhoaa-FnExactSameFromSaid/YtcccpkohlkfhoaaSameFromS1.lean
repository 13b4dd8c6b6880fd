/- Each function told by its native program; written by gen.py. -/
import Derived.Test.YtcccpkohlkfhoaaSameFromS0
namespace Go.VE
open Go.Proofs
noncomputable section
set_option linter.unusedVariables false
set_option linter.unusedSimpArgs false
set_option maxRecDepth 100000
def vu0:Nat→Option LoopSpec
 |_=>none
theorem v2h:vae Try.prog 24 v0q:=
 vcy G0_ok follows (Try.f24.body.getD .skip) Try.func24 (by kernel_rfl) fun p q=>⟨vu0,(n11n_p _ _).p.map _,by rw [vx3];kernel_rfl,vag (ids:=[]) (by kernel_rfl) (by kernel_rfl) trivial⟩
def G1:Glob:=G0.add 24 v0q
theorem G1_ok:GlobOk Try.prog G1:=G0_ok.add ⟨Try.f24,Try.func24,by kernel_rfl,by kernel_rfl⟩ v2h
def vlc:q15T→List AV:=fun x=>[.lst tVersion x.1,.i x.2.1,.i x.2.2.1,.i x.2.2.2]
def vlv:q15T→St:=fun x=>[]
def vn1:Nat→Option LoopSpec
 |0=>some (lpS [0,1,4,5] [] [.lst tVersion,.i,.i,.i] [] vgj (fun p q=>(p.1,p.2.1,p.2.2.1,p.2.2.2.1)) (fun k=>(Sum.elim (onE (exZ .ret vlc vlv) k) (onE (exZ (.exit 0) vlc vlv) k))))
 |_=>none
theorem vy3:LpAt G1 ⟨0,27,vn1⟩ Try.f6 0:=
 vbk rfl (fun x=>(n12n_bp0 x).p) vlc vlv (Sum.elim ((exZ .ret vlc vlv)) ((exZ (.exit 0) vlc vlv))) (fun _ _=>⟨rfl,rfl⟩) (fun z=>by rcases z with z|z<;>(intro h;cases h)) (fun k z=>by rcases z with z|z<;>rfl) (fun x=>by kernel_rfl)
theorem v25:vae Try.prog 6 v0v:=
 vcy G1_ok follows (Try.f6.body.getD .skip) Try.func6 (by kernel_rfl) fun p q=>⟨vn1,(n12n_p _ _).p.map _,by rw [vw9];kernel_rfl,vag (ids:=[0]) (by kernel_rfl) (by kernel_rfl) ⟨vy3,trivial⟩⟩
def G2:Glob:=G1.add 6 v0v
theorem G2_ok:GlobOk Try.prog G2:=G1_ok.add ⟨Try.f6,Try.func6,by kernel_rfl,by kernel_rfl⟩ v25
def vve:Nat→Option LoopSpec
 |_=>none
theorem v2r:vae Try.prog 27 v0n:=
 vcy G2_ok follows (Try.f27.body.getD .skip) Try.func27 (by kernel_rfl) fun p q=>⟨vve,(n13n_p _).p.map _,by rw [vwe];kernel_rfl,vag (ids:=[]) (by kernel_rfl) (by kernel_rfl) trivial⟩
def G3:Glob:=G2.add 27 v0n
theorem G3_ok:GlobOk Try.prog G3:=G2_ok.add ⟨Try.f27,Try.func27,by kernel_rfl,by kernel_rfl⟩ v2r
def vs3:q9T→List AV:=fun x=>[.lst tVersion x.1,.own 0,.i x.2.1]
def vr2:q9T→St:=fun x=>[.arr tVersion x.2.2]
def vnx:Nat→Option LoopSpec
 |0=>some (lpS [0,3,4] [] [.lst tVersion,.own 0,.i] [.arr tVersion] vgi (fun p q=>(p.1,p.2.2.1,q.1)) (fun k=>(onE (exZ (.exit 0) vs3 vr2) k)))
 |_=>none
theorem vyy:LpAt G3 ⟨0,23,vnx⟩ Try.f9 0:=
 vbk rfl (fun x=>(n14n_bp0 x).p) vs3 vr2 (exZ (.exit 0) vs3 vr2) (fun _ _=>⟨rfl,rfl⟩) (fun z=>by(intro h;cases h)) (fun _ _=>rfl) (fun x=>by kernel_rfl)
theorem v3c:vae Try.prog 9 v0y:=
 vcy G3_ok follows (Try.f9.body.getD .skip) Try.func9 (by kernel_rfl) fun p q=>⟨vnx,(n14n_p _).p.map _,by rw [vx0];kernel_rfl,vag (ids:=[0]) (by kernel_rfl) (by kernel_rfl) ⟨vyy,trivial⟩⟩
def G4:Glob:=G3.add 9 v0y
theorem G4_ok:GlobOk Try.prog G4:=G3_ok.add ⟨Try.f9,Try.func9,by kernel_rfl,by kernel_rfl⟩ v3c
def vva:Nat→Option LoopSpec
 |_=>none
theorem v2q:vae Try.prog 34 v0x:=
 vcy G4_ok.shallow follows (Try.f34.body.getD .skip) Try.func34 (by kernel_rfl) fun p q=>⟨vva,n24n_p.p.map _,by rw [vw1];kernel_rfl,vag (ids:=[]) (by kernel_rfl) (by kernel_rfl) trivial⟩
def G5:Glob:=G4.add 34 v0x
theorem G5_ok:GlobOk Try.prog G5:=G4_ok.add ⟨Try.f34,Try.func34,by kernel_rfl,by kernel_rfl⟩ v2q
def vu4:Nat→Option LoopSpec
 |_=>none
theorem v27:vae Try.prog 50 v1g:=
 vcy G5_ok.shallow follows (Try.f50.body.getD .skip) Try.func50 (by kernel_rfl) fun p q=>⟨vu4,(n20n_p _ _).p.map _,by rw [vw6];kernel_rfl,vag (ids:=[]) (by kernel_rfl) (by kernel_rfl) trivial⟩
def G6:Glob:=G5.add 50 v1g
theorem G6_ok:GlobOk Try.prog G6:=G5_ok.add ⟨Try.f50,Try.func50,by kernel_rfl,by kernel_rfl⟩ v27
def vsa:q11T→List AV:=fun x=>[.lst tVersion x.1,.bp 0 0,.own 1,.i x.2.1,.str x.2.2.1,.own 2,.i x.2.2.2.1]
def vrw:q11T→St:=fun x=>[.box [.str x.2.2.2.2.1,.str x.2.2.2.2.2.1],.arr .str x.2.2.2.2.2.2.1,.arr .str x.2.2.2.2.2.2.2]
def vsj:q11T→List AV:=fun x=>[.lst tVersion x.1,.bp 0 0,.own 1,.i x.2.1,.str x.2.2.1,.own 2,.i x.2.2.2.1]
def vsd:q11T→St:=fun x=>[.box [.str x.2.2.2.2.1,.str x.2.2.2.2.2.1],.arr .str x.2.2.2.2.2.2.1,.arr .str x.2.2.2.2.2.2.2]
def vr6:q10T→List AV:=fun x=>[.lst tVersion x.1,.bp 0 0,.own 1,.i x.2.1]
def vtc:q10T→St:=fun x=>[.box [.str x.2.2.1,.str x.2.2.2.1],.arr .str x.2.2.2.2]
def vg2:Nat→Option LoopSpec
 |2=>some (lpS [0,3,5,6,7,8,9] [] [.lst tVersion,.bp 0 0,.own 1,.i,.str,.own 2,.i] [.box [.str,.str],.arr .str,.arr .str] vgn (fun p q=>(p.1,p.2.2.2.1,p.2.2.2.2.1,p.2.2.2.2.2.2.1,q.1.1,q.1.2.1,q.2.1,q.2.2.1)) (fun k=>(onE (exZ (.exit 2) vsa vrw) k)))
 |4=>some (lpS [0,3,5,6,7,8,10] [] [.lst tVersion,.bp 0 0,.own 1,.i,.str,.own 2,.i] [.box [.str,.str],.arr .str,.arr .str] vfz (fun p q=>(p.1,p.2.2.2.1,p.2.2.2.2.1,p.2.2.2.2.2.2.1,q.1.1,q.1.2.1,q.2.1,q.2.2.1)) (fun k=>(onE (exZ (.exit 4) vsj vsd) k)))
 |0=>some (lpS [0,3,5,6] [] [.lst tVersion,.bp 0 0,.own 1,.i] [.box [.str,.str],.arr .str] vg0 (fun p q=>(p.1,p.2.2.2.1,q.1.1,q.1.2.1,q.2.1)) (fun k=>(onE (exZ (.exit 0) vr6 vtc) k)))
 |_=>none
theorem vz6:LpAt G6.shallow ⟨0,72,vg2⟩ Try.f25 2:=
 vbk rfl (fun x=>(n26n_bp2 x).p) vsa vrw (exZ (.exit 2) vsa vrw) (fun _ _=>⟨rfl,rfl⟩) (fun z=>by(intro h;cases h)) (fun _ _=>rfl) (fun x=>by kernel_rfl)
theorem vzj:LpAt G6.shallow ⟨0,72,vg2⟩ Try.f25 4:=
 vbk rfl (fun x=>(n26n_bp4 x).p) vsj vsd (exZ (.exit 4) vsj vsd) (fun _ _=>⟨rfl,rfl⟩) (fun z=>by(intro h;cases h)) (fun _ _=>rfl) (fun x=>by kernel_rfl)
theorem v0e:LpAt G6.shallow ⟨0,72,vg2⟩ Try.f25 0:=
 vbk rfl (fun x=>(n26n_bp0 x).p) vr6 vtc (exZ (.exit 0) vr6 vtc) (fun _ _=>⟨rfl,rfl⟩) (fun z=>by(intro h;cases h)) (fun _ _=>rfl) (fun x=>by kernel_rfl)
theorem v3k:vae Try.prog 25 v01:=
 vcy G6_ok.shallow follows (Try.f25.body.getD .skip) Try.func25 (by kernel_rfl) fun p q=>⟨vg2,(n26n_p _ _).p.map _,by rw [vv3];kernel_rfl,vag (ids:=[2,4,0]) (by kernel_rfl) (by kernel_rfl) ⟨vz6,⟨vzj,⟨v0e,trivial⟩⟩⟩⟩
def G7:Glob:=G6.add 25 v01
theorem G7_ok:GlobOk Try.prog G7:=G6_ok.add ⟨Try.f25,Try.func25,by kernel_rfl,by kernel_rfl⟩ v3k
def vse:q8T→List AV:=fun x=>[.lst tVersion x.1,.str x.2.1,.i x.2.2.1,.i x.2.2.2.1,.i x.2.2.2.2]
def vsh:q8T→St:=fun x=>[]
def vns:Nat→Option LoopSpec
 |0=>some (lpS [0,1,2,7,8] [] [.lst tVersion,.str,.i,.i,.i] [] vgl (fun p q=>(p.1,p.2.1,p.2.2.1,p.2.2.2.1,p.2.2.2.2.1)) (fun k=>(onE (exZ (.exit 0) vse vsh) k)))
 |2000005=>some ⟨[0,2,4,6,8,10,12,14,16,18,20,22,24,26,28,30,32,34,36,38,40,42,44,46,48,50,52,54,56,58,60,62,64],[],fun _ _ _=>none⟩
 |_=>none
theorem v0c:LpAt G7.shallow ⟨0,50,vns⟩ Try.f51 0:=
 vbk rfl (fun x=>(n25n_bp0 x).p) vse vsh (exZ (.exit 0) vse vsh) (fun _ _=>⟨rfl,rfl⟩) (fun z=>by(intro h;cases h)) (fun _ _=>rfl) (fun x=>by kernel_rfl)
theorem v3p:vae Try.prog 51 v0u:=
 vcy G7_ok.shallow follows (Try.f51.body.getD .skip) Try.func51 (by kernel_rfl) fun p q=>⟨vns,(n25n_p _ _ _).p.map _,by rw [vxs];kernel_rfl,vag (ids:=[0]) (by kernel_rfl) (by kernel_rfl) ⟨v0c,trivial⟩⟩
def G8:Glob:=G7.add 51 v0u
theorem G8_ok:GlobOk Try.prog G8:=G7_ok.add ⟨Try.f51,Try.func51,by kernel_rfl,by kernel_rfl⟩ v3p
def vvp:Nat→Option LoopSpec
 |_=>none
theorem v3a:vae Try.prog 26 v02:=
 vcy G8_ok.shallow follows (Try.f26.body.getD .skip) Try.func26 (by kernel_rfl) fun p q=>⟨vvp,(n23n_p _ _ _).p.map _,by rw [vv0];kernel_rfl,vag (ids:=[]) (by kernel_rfl) (by kernel_rfl) trivial⟩
def G9:Glob:=G8.add 26 v02
theorem G9_ok:GlobOk Try.prog G9:=G8_ok.add ⟨Try.f26,Try.func26,by kernel_rfl,by kernel_rfl⟩ v3a
def vsu:q13T→List AV:=fun x=>[.lst tVersion x.1,.i x.2.1,.own 0,.own 1,.i x.2.2.1]
def vta:q13T→St:=fun x=>[.arr tRange x.2.2.2.1,.arr .str x.2.2.2.2]
def vm2:Nat→Option LoopSpec
 |0=>some (lpS [0,2,7,8,9] [] [.lst tVersion,.i,.own 0,.own 1,.i] [.arr tRange,.arr .str] vf4 (fun p q=>(p.1,p.2.1,p.2.2.2.2.1,q.1,q.2.1)) (fun k=>(onE (exZ (.exit 0) vsu vta) k)))
 |_=>none
theorem vzi:LpAt G9.shallow ⟨0,43,vm2⟩ Try.f8 0:=
 vbk rfl (fun x=>(n22n_bp0 x).p) vsu vta (exZ (.exit 0) vsu vta) (fun _ _=>⟨rfl,rfl⟩) (fun z=>by(intro h;cases h)) (fun _ _=>rfl) (fun x=>by kernel_rfl)
theorem v2z:vae Try.prog 8 v1c:=
 vcy G9_ok.shallow follows (Try.f8.body.getD .skip) Try.func8 (by kernel_rfl) fun p q=>⟨vm2,(n22n_p _ _ _).p.map _,by rw [vyg];kernel_rfl,vag (ids:=[0]) (by kernel_rfl) (by kernel_rfl) ⟨vzi,trivial⟩⟩
def G10:Glob:=G9.add 8 v1c
theorem G10_ok:GlobOk Try.prog G10:=G9_ok.add ⟨Try.f8,Try.func8,by kernel_rfl,by kernel_rfl⟩ v2z
def vly:q3T→List AV:=fun x=>[.lst tRange x.1,.lst tRange x.2.1,.bool x.2.2.1,.i x.2.2.2]
def vma:q3T→St:=fun x=>[]
def vnd:Nat→Option LoopSpec
 |0=>some (lpS [0,1,4,5] [] [.lst tRange,.lst tRange,.bool,.i] [] vgd (fun p q=>(p.1,p.2.1,p.2.2.1,p.2.2.2.1)) (fun k=>(Sum.elim (onE (exZ .ret vly vma) k) (onE (exZ (.exit 0) vly vma) k))))
 |2000006=>some ⟨[0,2,4,6,8,10,12,14,16],[],fun _ _ _=>none⟩
 |_=>none
theorem vyn:LpAt G10.shallow ⟨0,26,vnd⟩ Try.f35 0:=
 vbk rfl (fun x=>(n27n_bp0 x).p) vly vma (Sum.elim ((exZ .ret vly vma)) ((exZ (.exit 0) vly vma))) (fun _ _=>⟨rfl,rfl⟩) (fun z=>by rcases z with z|z<;>(intro h;cases h)) (fun k z=>by rcases z with z|z<;>rfl) (fun x=>by kernel_rfl)
theorem v3m:vae Try.prog 35 v0w:=
 vcy G10_ok.shallow follows (Try.f35.body.getD .skip) Try.func35 (by kernel_rfl) fun p q=>⟨vnd,(n27n_p _ _).p.map _,by rw [vxy];kernel_rfl,vag (ids:=[0]) (by kernel_rfl) (by kernel_rfl) ⟨vyn,trivial⟩⟩
def G11:Glob:=G10.add 35 v0w
theorem G11_ok:GlobOk Try.prog G11:=G10_ok.add ⟨Try.f35,Try.func35,by kernel_rfl,by kernel_rfl⟩ v3m
def vb6:q6T→List AV:=fun x=>[.lst tVersion x.1,.lst tVersion x.2.1,.i x.2.2.1,.bool x.2.2.2.1,.bp 0 0,.i x.2.2.2.2.1,.i x.2.2.2.2.2.1]
def vb7:q6T→St:=fun x=>[.box [.str x.2.2.2.2.2.2.1,.str x.2.2.2.2.2.2.2]]
def vk7:q5T→List AV:=fun x=>[.lst tVersion x.1,.lst tVersion x.2.1,.i x.2.2.1,.bool x.2.2.2.1,.bp 0 0,.i x.2.2.2.2.1]
def vlf:q5T→St:=fun x=>[.box [.str x.2.2.2.2.2.1,.str x.2.2.2.2.2.2]]
def vjo:Nat→Option LoopSpec
 |5000011=>some (ctS [0,1,2,6,7,8,9] [] [.lst tVersion,.lst tVersion,.i,.bool,.bp 0 0,.i,.i] [.box [.str,.str]] vbl (fun p q=>(p.1,p.2.1,p.2.2.1,p.2.2.2.1,p.2.2.2.2.2.1,p.2.2.2.2.2.2.1,q.1.1,q.1.2.1)) (fun k=>(Sum.elim (onE (exZ .ret vb6 vb7) k) (onE (exZ .norm vb6 vb7) k))))
 |0=>some (lpS [0,1,2,6,7,8] [] [.lst tVersion,.lst tVersion,.i,.bool,.bp 0 0,.i] [.box [.str,.str]] vfb (fun p q=>(p.1,p.2.1,p.2.2.1,p.2.2.2.1,p.2.2.2.2.2.1,q.1.1,q.1.2.1)) (fun k=>(Sum.elim (onE (exZ (.exit 0) vk7 vlf) k) (onE (exZ .ret vk7 vlf) k))))
 |2000002=>some ⟨[0,2,4,8,10,12,7,15,17,18],[],fun _ _ _=>none⟩
 |2000011=>some ⟨[0,2,4,6,8,10,12,16,18,20,15,23,25,26,28],[],fun _ _ _=>none⟩
 |_=>none
theorem vmd:CtAt G11.shallow ⟨0,62,vjo⟩ Try.f17 5000011:=
 v3g rfl (fun x=>(n21n_jp5000011 x).p) vb6 vb7 (Sum.elim ((exZ .ret vb6 vb7)) ((exZ .norm vb6 vb7))) (fun _ _=>⟨rfl,rfl⟩) (fun k z=>by rcases z with z|z<;>rfl) (fun x=>by kernel_rfl)
theorem v0d:LpAt G11.shallow ⟨0,62,vjo⟩ Try.f17 0:=
 vbk rfl (fun x=>(n21n_bp0 x).p) vk7 vlf (Sum.elim ((exZ (.exit 0) vk7 vlf)) ((exZ .ret vk7 vlf))) (fun _ _=>⟨rfl,rfl⟩) (fun z=>by rcases z with z|z<;>(intro h;cases h)) (fun k z=>by rcases z with z|z<;>rfl) (fun x=>by kernel_rfl)
theorem v26:vae Try.prog 17 v09:=
 vcy G11_ok.shallow follows (Try.f17.body.getD .skip) Try.func17 (by kernel_rfl) fun p q=>⟨vjo,(n21n_p _ _ _).p.map _,by rw [vwl];kernel_rfl,vag (ids:=[5000011,0]) (by kernel_rfl) (by kernel_rfl) ⟨vmd,⟨v0d,trivial⟩⟩⟩
def G12:Glob:=G11.add 17 v09
theorem G12_ok:GlobOk Try.prog G12:=G11_ok.add ⟨Try.f17,Try.func17,by kernel_rfl,by kernel_rfl⟩ v26
def vvy:Nat→Option LoopSpec
 |3000000=>some ⟨[],[some tVersion],fun _ _ _=>none⟩
 |_=>none
theorem vgf:vae Try.prog 55 vc7:=
 vcy G12_ok follows (Try.f55.body.getD .skip) Try.func55 (by kernel_rfl) fun p q=>⟨vvy,(n18n_p _).p.map _,by rw [vyd];kernel_rfl,vag (ids:=[]) (by kernel_rfl) (by kernel_rfl) trivial⟩
def G13:Glob:=G12.add 55 vc7
theorem G13_ok:GlobOk Try.prog G13:=G12_ok.add ⟨Try.f55,Try.func55,by kernel_rfl,by kernel_rfl⟩ vgf
def vrn:q0T→List AV:=fun x=>[.lst (.slice tVersion) x.1,.i x.2.1,.lst (.slice tVersion) x.2.2.1,.i x.2.2.2.1,.i x.2.2.2.2]
def vs5:q0T→St:=fun x=>[]
def vsf:q1T→List AV:=fun x=>[.own 0,.lst (.slice tVersion) x.1,.i x.2.1,.i x.2.2.1]
def vr5:q1T→St:=fun x=>[.arr tVersion x.2.2.2]
def vjt:Nat→Option LoopSpec
 |0=>some (lpS [0,3,9,10,11] [] [.lst (.slice tVersion),.i,.lst (.slice tVersion),.i,.i] [] vfx (fun p q=>(p.1,p.2.1,p.2.2.1,p.2.2.2.1,p.2.2.2.2.1)) (fun k=>(onE (exZ (.exit 0) vrn vs5) k)))
 |2=>some (lpS [6,25,26,27] [] [.own 0,.lst (.slice tVersion),.i,.i] [.arr tVersion] vf8 (fun p q=>(p.2.1,p.2.2.1,p.2.2.2.1,q.1)) (fun k=>(onE (exZ (.exit 2) vsf vr5) k)))
 |_=>none
theorem vy2:LpAt G13 ⟨0,36,vjt⟩ Try.f39 0:=
 vbk rfl (fun x=>(n16n_bp0 x).p) vrn vs5 (exZ (.exit 0) vrn vs5) (fun _ _=>⟨rfl,rfl⟩) (fun z=>by(intro h;cases h)) (fun _ _=>rfl) (fun x=>by kernel_rfl)
theorem vyp:LpAt G13 ⟨0,36,vjt⟩ Try.f39 2:=
 vbk rfl (fun x=>(n16n_bp2 x).p) vsf vr5 (exZ (.exit 2) vsf vr5) (fun _ _=>⟨rfl,rfl⟩) (fun z=>by(intro h;cases h)) (fun _ _=>rfl) (fun x=>by kernel_rfl)
theorem v2j:vae Try.prog 39 v1d:=
 vcy G13_ok follows (Try.f39.body.getD .skip) Try.func39 (by kernel_rfl) fun p q=>⟨vjt,(n16n_p _).p.map _,by rw [vv6];kernel_rfl,vag (ids:=[0,2]) (by kernel_rfl) (by kernel_rfl) ⟨vy2,⟨vyp,trivial⟩⟩⟩
def G14:Glob:=G13.add 39 v1d
theorem G14_ok:GlobOk Try.prog G14:=G13_ok.add ⟨Try.f39,Try.func39,by kernel_rfl,by kernel_rfl⟩ v2j
def vuz:Nat→Option LoopSpec
 |_=>none
theorem v2x:vae Try.prog 38 v04:=
 vcy G14_ok follows (Try.f38.body.getD .skip) Try.func38 (by kernel_rfl) fun p q=>⟨vuz,n05n_p.p.map _,by rw [vwo];kernel_rfl,vag (ids:=[]) (by kernel_rfl) (by kernel_rfl) trivial⟩
def G15:Glob:=G14.add 38 v04
theorem G15_ok:GlobOk Try.prog G15:=G14_ok.add ⟨Try.f38,Try.func38,by kernel_rfl,by kernel_rfl⟩ v2x
theorem vhk:vae Try.prog 52 vb3:=by
 intro args s k r hk
 unfold vb3 at hk
 rw [vwv]at hk
 unfold vqg at hk
 have e:Try.laysSort_ren.f 190=52:=by kernel_rfl
 exact e▸vod Try.laysSort args s k r hk
def G16:Glob:=G15.add 52 vb3
theorem G16_ok:GlobOk Try.prog G16:=G15_ok.add ⟨Try.f52,Try.func52,by kernel_rfl,by kernel_rfl⟩ vhk
def vrm:(Int×Nat×Int×(List ByteArray))→List AV:=fun x=>[.own 0,.i x.1,.win 0 x.2.1,.i x.2.2.1]
def vrl:(Int×Nat×Int×(List ByteArray))→St:=fun x=>[.arr .str x.2.2.2]
def vro:q18T→List AV:=fun x=>[.own 0,.own 1,.i x.1]
def vr8:q18T→St:=fun x=>[.arr .str x.2.1,.arr .str x.2.2]
def vt7:(Int×(List ByteArray))→Out×List AV×St:=fun z=>(.ret,[.own 0,.own 1,.i z.1],[.gone,.arr .str z.2])
def vjm:Nat→Option LoopSpec
 |2=>some (lpS [0,3,4,5] [] [.own 0,.i,.win 0,.i] [.arr .str] vfg (fun p q=>(p.2.1,p.2.2.1,p.2.2.2.1,q.1)) (fun k=>(onE (exZ (.exit 2) vrm vrl) k)))
 |0=>some (lpS [0,2,3] [none,some .str] [.own 0,.own 1,.i] [.arr .str,.arr .str] ven (fun p q=>(p.2.2.1,q.1,q.2.1)) (fun k=>(Sum.elim (onE (exZ (.exit 0) vro vr8) k) (onE vt7 k))))
 |2000006=>some ⟨[0,2,4,6,8,10,12,14,16,18],[],fun _ _ _=>none⟩
 |2000011=>some ⟨[0,2,4,6,8,10,12,14,16,18],[],fun _ _ _=>none⟩
 |_=>none
theorem vz2:LpAt G16 ⟨1,61,vjm⟩ Try.f53 2:=
 vbk rfl (fun x=>(n15n_bp2 x).p) vrm vrl (exZ (.exit 2) vrm vrl) (fun _ _=>⟨rfl,rfl⟩) (fun z=>by(intro h;cases h)) (fun _ _=>rfl) (fun x=>by kernel_rfl)
theorem vz3:LpAt G16 ⟨1,61,vjm⟩ Try.f53 0:=
 vbk rfl (fun x=>(n15n_bp0 x).p) vro vr8 (Sum.elim ((exZ (.exit 0) vro vr8)) (vt7)) (fun _ _=>⟨rfl,rfl⟩) (fun z=>by rcases z with z|z<;>(intro h;cases h)) (fun k z=>by rcases z with z|z<;>rfl) (fun x=>by kernel_rfl)
theorem ve6:vae Try.prog 53 vcs:=
 vcy G16_ok follows (Try.f53.body.getD .skip) Try.func53 (by kernel_rfl) fun p q=>⟨vjm,(n15n_p _).p.map2 _ _,by rw [vv5];kernel_rfl,vag (ids:=[2,0]) (by kernel_rfl) (by kernel_rfl) ⟨vz2,⟨vz3,trivial⟩⟩⟩
def G17:Glob:=G16.add 53 vcs
theorem G17_ok:GlobOk Try.prog G17:=G16_ok.add ⟨Try.f53,Try.func53,by kernel_rfl,by kernel_rfl⟩ ve6
def vs6:q12T→List AV:=fun x=>[.own 0,.lst tVersion x.1,.i x.2.1,.i x.2.2.1]
def vsl:q12T→St:=fun x=>[.arr .str x.2.2.2]
def vmn:Nat→Option LoopSpec
 |0=>some (lpS [3,6,7,8] [some .str] [.own 0,.lst tVersion,.i,.i] [.arr .str] vgr (fun p q=>(p.2.1,p.2.2.1,p.2.2.2.1,q.1)) (fun k=>(onE (exZ (.exit 0) vs6 vsl) k)))
 |_=>none
theorem vzy:LpAt G17 ⟨0,22,vmn⟩ Try.f28 0:=
 vbk rfl (fun x=>(n06n_bp0 x).p) vs6 vsl (exZ (.exit 0) vs6 vsl) (fun _ _=>⟨rfl,rfl⟩) (fun z=>by(intro h;cases h)) (fun _ _=>rfl) (fun x=>by kernel_rfl)
theorem v3n:vae Try.prog 28 v0l:=
 vcy G17_ok follows (Try.f28.body.getD .skip) Try.func28 (by kernel_rfl) fun p q=>⟨vmn,(n06n_p _).p.map _,by rw [vwy];kernel_rfl,vag (ids:=[0]) (by kernel_rfl) (by kernel_rfl) ⟨vzy,trivial⟩⟩
def G18:Glob:=G17.add 28 v0l
theorem G18_ok:GlobOk Try.prog G18:=G17_ok.add ⟨Try.f28,Try.func28,by kernel_rfl,by kernel_rfl⟩ v3n
def vr0:q7T→List AV:=fun x=>[.lst tVersion x.1,.str x.2.1,.i x.2.2.1,.i x.2.2.2.1,.lst tVersion x.2.2.2.2.1,.i x.2.2.2.2.2.1,.i x.2.2.2.2.2.2]
def vsm:q7T→St:=fun x=>[]
def vne:Nat→Option LoopSpec
 |0=>some (lpS [0,1,2,7,10,11,12] [] [.lst tVersion,.str,.i,.i,.lst tVersion,.i,.i] [] vgs (fun p q=>(p.1,p.2.1,p.2.2.1,p.2.2.2.1,p.2.2.2.2.1,p.2.2.2.2.2.1,p.2.2.2.2.2.2.1)) (fun k=>(onE (exZ (.exit 0) vr0 vsm) k)))
 |2000005=>some ⟨[0,2,4,6,8,10,12,14,16,18,20,22,24,26,28,30,32,34,36,38,40,42,44,46],[],fun _ _ _=>none⟩
 |_=>none
theorem vyr:LpAt G18 ⟨0,44,vne⟩ Try.f54 0:=
 vbk rfl (fun x=>(n07n_bp0 x).p) vr0 vsm (exZ (.exit 0) vr0 vsm) (fun _ _=>⟨rfl,rfl⟩) (fun z=>by(intro h;cases h)) (fun _ _=>rfl) (fun x=>by kernel_rfl)
theorem v29:vae Try.prog 54 v1f:=
 vcy G18_ok follows (Try.f54.body.getD .skip) Try.func54 (by kernel_rfl) fun p q=>⟨vne,(n07n_p _ _ _).p.map _,by rw [vxz];kernel_rfl,vag (ids:=[0]) (by kernel_rfl) (by kernel_rfl) ⟨vyr,trivial⟩⟩
def G19:Glob:=G18.add 54 v1f
theorem G19_ok:GlobOk Try.prog G19:=G18_ok.add ⟨Try.f54,Try.func54,by kernel_rfl,by kernel_rfl⟩ v29
def vvm:Nat→Option LoopSpec
 |_=>none
theorem v2n:vae Try.prog 29 v0t:=
 vcy G19_ok follows (Try.f29.body.getD .skip) Try.func29 (by kernel_rfl) fun p q=>⟨vvm,(n04n_p _ _ _).p.map _,by rw [vw2];kernel_rfl,vag (ids:=[]) (by kernel_rfl) (by kernel_rfl) trivial⟩
def G20:Glob:=G19.add 29 v0t
theorem G20_ok:GlobOk Try.prog G20:=G19_ok.add ⟨Try.f29,Try.func29,by kernel_rfl,by kernel_rfl⟩ v2n
def vvf:Nat→Option LoopSpec
 |_=>none
theorem v23:vae Try.prog 30 v0s:=
 vcy G20_ok follows (Try.f30.body.getD .skip) Try.func30 (by kernel_rfl) fun p q=>⟨vvf,(n00n_p _ _).p.map _,by rw [vv4];kernel_rfl,vag (ids:=[]) (by kernel_rfl) (by kernel_rfl) trivial⟩
def G21:Glob:=G20.add 30 v0s
theorem G21_ok:GlobOk Try.prog G21:=G20_ok.add ⟨Try.f30,Try.func30,by kernel_rfl,by kernel_rfl⟩ v23
def vsp:q14T→List AV:=fun x=>[.lst tVersion x.1,.i x.2.1,.bp 0 0,.own 1,.own 2,.i x.2.2.1,.i x.2.2.2.1]
def vsy:q14T→St:=fun x=>[.box [.str x.2.2.2.2.1,.str x.2.2.2.2.2.1],.arr tRange x.2.2.2.2.2.2.1,.arr .str x.2.2.2.2.2.2.2]
def vnc:Nat→Option LoopSpec
 |0=>some (lpS [0,2,4,7,13,14,15] [none,none,none,some tRange] [.lst tVersion,.i,.bp 0 0,.own 1,.own 2,.i,.i] [.box [.str,.str],.arr tRange,.arr .str] vfa (fun p q=>(p.1,p.2.1,p.2.2.2.2.2.1,p.2.2.2.2.2.2.1,q.1.1,q.1.2.1,q.2.1,q.2.2.1)) (fun k=>(onE (exZ (.exit 0) vsp vsy) k)))
 |_=>none
theorem vyt:LpAt G21 ⟨0,40,vnc⟩ Try.f11 0:=
 vbk rfl (fun x=>(n03n_bp0 x).p) vsp vsy (exZ (.exit 0) vsp vsy) (fun _ _=>⟨rfl,rfl⟩) (fun z=>by(intro h;cases h)) (fun _ _=>rfl) (fun x=>by kernel_rfl)
theorem v2w:vae Try.prog 11 v1a:=
 vcy G21_ok follows (Try.f11.body.getD .skip) Try.func11 (by kernel_rfl) fun p q=>⟨vnc,(n03n_p _ _ _).p.map _,by rw [vwc];kernel_rfl,vag (ids:=[0]) (by kernel_rfl) (by kernel_rfl) ⟨vyt,trivial⟩⟩
def G22:Glob:=G21.add 11 v1a
theorem G22_ok:GlobOk Try.prog G22:=G21_ok.add ⟨Try.f11,Try.func11,by kernel_rfl,by kernel_rfl⟩ v2w
def vlt:q2T→List AV:=fun x=>[.lst tRange x.1,.lst tRange x.2.1,.bool x.2.2.1,.i x.2.2.2.1,.i x.2.2.2.2]
def vkv:q2T→St:=fun x=>[]
def vm8:Nat→Option LoopSpec
 |0=>some (lpS [0,1,4,12,13] [] [.lst tRange,.lst tRange,.bool,.i,.i] [] vgq (fun p q=>(p.1,p.2.1,p.2.2.1,p.2.2.2.1,p.2.2.2.2.1)) (fun k=>(Sum.elim (onE (exZ .ret vlt vkv) k) (onE (exZ (.exit 0) vlt vkv) k))))
 |2000006=>some ⟨[0,2,4,6,8,10,12,14,16],[],fun _ _ _=>none⟩
 |_=>none
theorem vzq:LpAt G22 ⟨0,26,vm8⟩ Try.f37 0:=
 vbk rfl (fun x=>(n17n_bp0 x).p) vlt vkv (Sum.elim ((exZ .ret vlt vkv)) ((exZ (.exit 0) vlt vkv))) (fun _ _=>⟨rfl,rfl⟩) (fun z=>by rcases z with z|z<;>(intro h;cases h)) (fun k z=>by rcases z with z|z<;>rfl) (fun x=>by kernel_rfl)
theorem v3q:vae Try.prog 37 v00:=
 vcy G22_ok follows (Try.f37.body.getD .skip) Try.func37 (by kernel_rfl) fun p q=>⟨vm8,(n17n_p _ _).p.map _,by rw [vwb];kernel_rfl,vag (ids:=[0]) (by kernel_rfl) (by kernel_rfl) ⟨vzq,trivial⟩⟩
def G23:Glob:=G22.add 37 v00
theorem G23_ok:GlobOk Try.prog G23:=G22_ok.add ⟨Try.f37,Try.func37,by kernel_rfl,by kernel_rfl⟩ v3q
def vvd:Nat→Option LoopSpec
 |2000001=>some ⟨[0,4,8,12,3,7,11,15,17,18],[],fun _ _ _=>none⟩
 |_=>none
theorem v20:vae Try.prog 36 v05:=
 vcy G23_ok follows (Try.f36.body.getD .skip) Try.func36 (by kernel_rfl) fun p q=>⟨vvd,(n02n_p _ _ _).p.map _,by rw [vxv];kernel_rfl,vag (ids:=[]) (by kernel_rfl) (by kernel_rfl) trivial⟩
def G24:Glob:=G23.add 36 v05
theorem G24_ok:GlobOk Try.prog G24:=G23_ok.add ⟨Try.f36,Try.func36,by kernel_rfl,by kernel_rfl⟩ v20
def vle:q19T→List AV:=fun x=>[.i x.1,.bool x.2.1,.fn 36 [.bp 0 0,.bp 1 0],.own 2,.i x.2.2.1,.i x.2.2.2.1]
def vl0:q19T→St:=fun x=>[.box [.lst tVersion x.2.2.2.2.1],.box [.lst tVersion x.2.2.2.2.2.1],.arr tVersion x.2.2.2.2.2.2]
def vmy:Nat→Option LoopSpec
 |0=>some (lpS [2,6,7,14,15,16] [] [.i,.bool,.fn 36 [.bp 0 0,.bp 1 0],.own 2,.i,.i] [.box [.lst tVersion],.box [.lst tVersion],.arr tVersion] vic (fun p q=>(p.1,p.2.1,p.2.2.2.2.1,p.2.2.2.2.2.1,q.1.1,q.2.1.1,q.2.2.1)) (fun k=>(Sum.elim (onE (exZ .ret vle vl0) k) (onE (exZ (.exit 0) vle vl0) k))))
 |_=>none
theorem vz0:LpAt G24 ⟨0,35,vmy⟩ Try.f18 0:=
 vbk rfl (fun x=>(n01n_bp0 x).p) vle vl0 (Sum.elim ((exZ .ret vle vl0)) ((exZ (.exit 0) vle vl0))) (fun _ _=>⟨rfl,rfl⟩) (fun z=>by rcases z with z|z<;>(intro h;cases h)) (fun k z=>by rcases z with z|z<;>rfl) (fun x=>by kernel_rfl)
theorem v3j:vae Try.prog 18 v03:=
 vcy G24_ok follows (Try.f18.body.getD .skip) Try.func18 (by kernel_rfl) fun p q=>⟨vmy,(n01n_p _ _ _).p.map _,by rw [vxc];kernel_rfl,vag (ids:=[0]) (by kernel_rfl) (by kernel_rfl) ⟨vz0,trivial⟩⟩
def G25:Glob:=G24.add 18 v03
theorem G25_ok:GlobOk Try.prog G25:=G24_ok.add ⟨Try.f18,Try.func18,by kernel_rfl,by kernel_rfl⟩ v3j
def vvo:Nat→Option LoopSpec
 |_=>none
theorem v2k:vae Try.prog 32 v0m:=
 vcy G25_ok follows (Try.f32.body.getD .skip) Try.func32 (by kernel_rfl) fun p q=>⟨vvo,(n09n_p _ _).p.map _,by rw [vxx];kernel_rfl,vag (ids:=[]) (by kernel_rfl) (by kernel_rfl) trivial⟩
def G26:Glob:=G25.add 32 v0m
theorem G26_ok:GlobOk Try.prog G26:=G25_ok.add ⟨Try.f32,Try.func32,by kernel_rfl,by kernel_rfl⟩ v2k
def vmb:q4T→List AV:=fun x=>[.lst tVersion x.1,.lst tVersion x.2.1,.bool x.2.2.1,.i x.2.2.2]
def vlh:q4T→St:=fun x=>[]
def vm6:Nat→Option LoopSpec
 |0=>some (lpS [0,1,4,5] [] [.lst tVersion,.lst tVersion,.bool,.i] [] vgt (fun p q=>(p.1,p.2.1,p.2.2.1,p.2.2.2.1)) (fun k=>(Sum.elim (onE (exZ .ret vmb vlh) k) (onE (exZ (.exit 0) vmb vlh) k))))
 |2000006=>some ⟨[0,2,4,6,8,10,12,14,16,18],[],fun _ _ _=>none⟩
 |_=>none
theorem vzz:LpAt G26 ⟨0,27,vm6⟩ Try.f13 0:=
 vbk rfl (fun x=>(n10n_bp0 x).p) vmb vlh (Sum.elim ((exZ .ret vmb vlh)) ((exZ (.exit 0) vmb vlh))) (fun _ _=>⟨rfl,rfl⟩) (fun z=>by rcases z with z|z<;>(intro h;cases h)) (fun k z=>by rcases z with z|z<;>rfl) (fun x=>by kernel_rfl)
theorem v21:vae Try.prog 13 v08:=
 vcy G26_ok follows (Try.f13.body.getD .skip) Try.func13 (by kernel_rfl) fun p q=>⟨vm6,(n10n_p _ _).p.map _,by rw [vx5];kernel_rfl,vag (ids:=[0]) (by kernel_rfl) (by kernel_rfl) ⟨vzz,trivial⟩⟩
def G27:Glob:=G26.add 13 v08
theorem G27_ok:GlobOk Try.prog G27:=G26_ok.add ⟨Try.f13,Try.func13,by kernel_rfl,by kernel_rfl⟩ v21
def vux:Nat→Option LoopSpec
 |_=>none
theorem v0p:vae Try.prog 4 vxh:=
 vcy G27_ok follows (Try.f4.body.getD .skip) Try.func4 (by kernel_rfl) fun p q=>⟨vux,(n08n_p _ _ _).p.map _,by rw [vws];kernel_rfl,vag (ids:=[]) (by kernel_rfl) (by kernel_rfl) trivial⟩
def G28:Glob:=G27.add 4 vxh
theorem v34:GlobOk Try.prog G28:=G27_ok.add ⟨Try.f4,Try.func4,by kernel_rfl,by kernel_rfl⟩ v0p
end
end Go.VE
