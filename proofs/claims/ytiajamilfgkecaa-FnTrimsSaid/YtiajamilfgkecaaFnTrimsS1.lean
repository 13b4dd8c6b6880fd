/- Each function told by its native program; written by gen.py. -/
import Derived.Test.YtiajamilfgkecaaFnTrimsS0
namespace Go.VE
open Go.Proofs
noncomputable section
set_option linter.unusedVariables false
set_option linter.unusedSimpArgs false
set_option maxRecDepth 100000
def v1w:Nat→Option LoopSpec
 |_=>none
theorem wey:vad Try.prog 51 wbg:=
 vbb G0_ok follows (Try.f51.body.getD .skip) Try.func51 (by kernel_rfl) fun p q=>⟨v1w,(n20n_p _).p.map _,by rw [v4d];kernel_rfl,vac (ids:=[]) (by kernel_rfl) (by kernel_rfl) trivial⟩
def G1:Glob:=G0.add 51 wbg
theorem G1_ok:GlobOk Try.prog G1:=G0_ok.add ⟨Try.f51,Try.func51,by kernel_rfl,by kernel_rfl⟩ wey
def vfu:((List Int)×Int×Int)→List AV:=fun x=>[.lst (.int .u8) x.1,.i x.2.1,.i x.2.2]
def vfz:((List Int)×Int×Int)→St:=fun x=>[]
def vwe:((List Int)×Int×Int)→List AV:=fun x=>[.lst (.int .u8) x.1,.i x.2.1,.i x.2.2]
def vxb:((List Int)×Int×Int)→St:=fun x=>[]
def vme:Nat→Option LoopSpec
 |6000001=>some (ctS [0,3,4] [] [.lst (.int .u8),.i,.i] [] vdk (fun p q=>(p.1,p.2.1,p.2.2.1)) (fun k=>(onE (exZ .norm vfu vfz) k)))
 |0=>some (lpS [0,3,4] [] [.lst (.int .u8),.i,.i] [] vko (fun p q=>(p.1,p.2.1,p.2.2.1)) (fun k=>(onE (exZ (.exit 0) vwe vxb) k)))
 |_=>none
theorem vpr:CtAt G1.shallow ⟨0,32,vme⟩ Try.f113 6000001:=
 vrl rfl (fun x=>(n43n_jp6000001 x).p) vfu vfz (exZ .norm vfu vfz) (fun _ _=>⟨rfl,rfl⟩) (fun _ _=>rfl) (fun x=>by kernel_rfl)
theorem v8p:LpAt G1.shallow ⟨0,32,vme⟩ Try.f113 0:=
 vas rfl (fun x=>(n43n_bp0 x).p) vwe vxb (exZ (.exit 0) vwe vxb) (fun _ _=>⟨rfl,rfl⟩) (fun z=>by(intro h;cases h)) (fun _ _=>rfl) (fun x=>by kernel_rfl)
theorem wdh:vad Try.prog 113 wao:=
 vbb G1_ok.shallow follows (Try.f113.body.getD .skip) Try.func113 (by kernel_rfl) fun p q=>⟨vme,(n43n_p _).p.map _,by rw [v44];kernel_rfl,vac (ids:=[6000001,0]) (by kernel_rfl) (by kernel_rfl) ⟨vpr,⟨v8p,trivial⟩⟩⟩
def G2:Glob:=G1.add 113 wao
theorem G2_ok:GlobOk Try.prog G2:=G1_ok.add ⟨Try.f113,Try.func113,by kernel_rfl,by kernel_rfl⟩ wdh
def v17:Nat→Option LoopSpec
 |2000002=>some ⟨[0,2,4,6,8,10,12,14,16,18,20,22,24],[],fun _ _ _=>none⟩
 |2000003=>some ⟨[0,2,4,6,8,10,12,14,16,18],[],fun _ _ _=>none⟩
 |2000004=>some ⟨[0,2,4,6,8,10,12,14,16,18,20,22,24,26,28],[],fun _ _ _=>none⟩
 |_=>none
theorem wfb:vad Try.prog 130 wbi:=
 vbb G2_ok.shallow follows (Try.f130.body.getD .skip) Try.func130 (by kernel_rfl) fun p q=>⟨v17,(n41n_p _ _ _).p.map _,by rw [v6b];kernel_rfl,vac (ids:=[]) (by kernel_rfl) (by kernel_rfl) trivial⟩
def G3:Glob:=G2.add 130 wbi
theorem G3_ok:GlobOk Try.prog G3:=G2_ok.add ⟨Try.f130,Try.func130,by kernel_rfl,by kernel_rfl⟩ wfb
def v2c:Nat→Option LoopSpec
 |_=>none
theorem wds:vad Try.prog 125 v9y:=
 vbb G3_ok.shallow follows (Try.f125.body.getD .skip) Try.func125 (by kernel_rfl) fun p q=>⟨v2c,(n40n_p _ _ _ _).p.map _,by rw [vzd];kernel_rfl,vac (ids:=[]) (by kernel_rfl) (by kernel_rfl) trivial⟩
def G4:Glob:=G3.add 125 v9y
theorem G4_ok:GlobOk Try.prog G4:=G3_ok.add ⟨Try.f125,Try.func125,by kernel_rfl,by kernel_rfl⟩ wds
def v1s:Nat→Option LoopSpec
 |_=>none
theorem we3:vad Try.prog 166 wa0:=
 vbb G4_ok.shallow follows (Try.f166.body.getD .skip) Try.func166 (by kernel_rfl) fun p q=>⟨v1s,(n45n_p _ _ _ _).p.map _,by rw [v5v];kernel_rfl,vac (ids:=[]) (by kernel_rfl) (by kernel_rfl) trivial⟩
def G5:Glob:=G4.add 166 wa0
theorem G5_ok:GlobOk Try.prog G5:=G4_ok.add ⟨Try.f166,Try.func166,by kernel_rfl,by kernel_rfl⟩ we3
def v14:Nat→Option LoopSpec
 |_=>none
theorem we0:vad Try.prog 124 wbn:=
 vbb G5_ok.shallow follows (Try.f124.body.getD .skip) Try.func124 (by kernel_rfl) fun p q=>⟨v14,(n46n_p _ _ _).p.map _,by rw [vy9];kernel_rfl,vac (ids:=[]) (by kernel_rfl) (by kernel_rfl) trivial⟩
def G6:Glob:=G5.add 124 wbn
theorem G6_ok:GlobOk Try.prog G6:=G5_ok.add ⟨Try.f124,Try.func124,by kernel_rfl,by kernel_rfl⟩ we0
def v03:Nat→Option LoopSpec
 |_=>none
theorem wea:vad Try.prog 132 wbq:=
 vbb G6_ok.shallow follows (Try.f132.body.getD .skip) Try.func132 (by kernel_rfl) fun p q=>⟨v03,(n44n_p _ _ _ _).p.map _,by rw [v57];kernel_rfl,vac (ids:=[]) (by kernel_rfl) (by kernel_rfl) trivial⟩
def G7:Glob:=G6.add 132 wbq
theorem G7_ok:GlobOk Try.prog G7:=G6_ok.add ⟨Try.f132,Try.func132,by kernel_rfl,by kernel_rfl⟩ wea
def v1h:Nat→Option LoopSpec
 |_=>none
theorem wd1:vad Try.prog 165 wa1:=
 vbb G7_ok.shallow follows (Try.f165.body.getD .skip) Try.func165 (by kernel_rfl) fun p q=>⟨v1h,(n48n_p _ _ _).p.map _,by rw [v29];kernel_rfl,vac (ids:=[]) (by kernel_rfl) (by kernel_rfl) trivial⟩
def G8:Glob:=G7.add 165 wa1
theorem G8_ok:GlobOk Try.prog G8:=G7_ok.add ⟨Try.f165,Try.func165,by kernel_rfl,by kernel_rfl⟩ wd1
def vwq:q22T→List AV:=fun x=>[.lst tWrite x.1,.bp 0 0,.own 1,.i x.2.1]
def vw7:q22T→St:=fun x=>[.box [.str x.2.2.1,.str x.2.2.2.1,.bool x.2.2.2.2.1],.arr tWrite x.2.2.2.2.2]
def vww:q22T→List AV:=fun x=>[.lst tWrite x.1,.bp 0 0,.own 1,.i x.2.1]
def vxu:q22T→St:=fun x=>[.box [.str x.2.2.1,.str x.2.2.2.1,.bool x.2.2.2.2.1],.arr tWrite x.2.2.2.2.2]
def vlu:Nat→Option LoopSpec
 |0=>some (lpS [0,3,5,6] [] [.lst tWrite,.bp 0 0,.own 1,.i] [.box [.str,.str,.bool],.arr tWrite] vhw (fun p q=>(p.1,p.2.2.2.1,q.1.1,q.1.2.1,q.1.2.2.1,q.2.1)) (fun k=>(onE (exZ (.exit 0) vwq vw7) k)))
 |2=>some (lpS [0,3,5,7] [] [.lst tWrite,.bp 0 0,.own 1,.i] [.box [.str,.str,.bool],.arr tWrite] vhz (fun p q=>(p.1,p.2.2.2.1,q.1.1,q.1.2.1,q.1.2.2.1,q.2.1)) (fun k=>(onE (exZ (.exit 2) vww vxu) k)))
 |2000005=>some ⟨[0,2,4,6,8,10,12,14],[],fun _ _ _=>none⟩
 |2000011=>some ⟨[0,2,4,6,8,10,12,14],[],fun _ _ _=>none⟩
 |_=>none
theorem v9x:LpAt G8.shallow ⟨0,56,vlu⟩ Try.f88 0:=
 vas rfl (fun x=>(n35n_bp0 x).p) vwq vw7 (exZ (.exit 0) vwq vw7) (fun _ _=>⟨rfl,rfl⟩) (fun z=>by(intro h;cases h)) (fun _ _=>rfl) (fun x=>by kernel_rfl)
theorem v8x:LpAt G8.shallow ⟨0,56,vlu⟩ Try.f88 2:=
 vas rfl (fun x=>(n35n_bp2 x).p) vww vxu (exZ (.exit 2) vww vxu) (fun _ _=>⟨rfl,rfl⟩) (fun z=>by(intro h;cases h)) (fun _ _=>rfl) (fun x=>by kernel_rfl)
theorem wez:vad Try.prog 88 waf:=
 vbb G8_ok.shallow follows (Try.f88.body.getD .skip) Try.func88 (by kernel_rfl) fun p q=>⟨vlu,(n35n_p _ _).p.map _,by rw [v5a];kernel_rfl,vac (ids:=[0,2]) (by kernel_rfl) (by kernel_rfl) ⟨v9x,⟨v8x,trivial⟩⟩⟩
def G9:Glob:=G8.add 88 waf
theorem G9_ok:GlobOk Try.prog G9:=G8_ok.add ⟨Try.f88,Try.func88,by kernel_rfl,by kernel_rfl⟩ wez
def vwf:q34T→List AV:=fun x=>[.bp 0 0,.own 1,.i x.1]
def vye:q34T→St:=fun x=>[.box [.lst (.int .u8) x.2.1,.i x.2.2.1,.i x.2.2.2.1],.arr tWrite x.2.2.2.2]
def vp2:Nat→Option LoopSpec
 |0=>some (lpS [0,3,4] [] [.bp 0 0,.own 1,.i] [.box [.lst (.int .u8),.i,.i],.arr tWrite] vkq (fun p q=>(p.2.2.1,q.1.1,q.1.2.1,q.1.2.2.1,q.2.1)) (fun k=>(onE (exZ (.exit 0) vwf vye) k)))
 |_=>none
theorem v9b:LpAt G9.shallow ⟨1,17,vp2⟩ Try.f122 0:=
 vas rfl (fun x=>(n49n_bp0 x).p) vwf vye (exZ (.exit 0) vwf vye) (fun _ _=>⟨rfl,rfl⟩) (fun z=>by(intro h;cases h)) (fun _ _=>rfl) (fun x=>by kernel_rfl)
theorem wfi:vad Try.prog 122 wal:=
 vbb G9_ok.shallow follows (Try.f122.body.getD .skip) Try.func122 (by kernel_rfl) fun p q=>⟨vp2,(n49n_p _ _ _).p.map _,by rw [v3v];kernel_rfl,vac (ids:=[0]) (by kernel_rfl) (by kernel_rfl) ⟨v9b,trivial⟩⟩
def G10:Glob:=G9.add 122 wal
theorem G10_ok:GlobOk Try.prog G10:=G9_ok.add ⟨Try.f122,Try.func122,by kernel_rfl,by kernel_rfl⟩ wfi
def vfp:q24T→List AV:=fun x=>[.lst tWrite x.1,.i x.2.1,.own 0,.i x.2.2.1,.bp 1 0,.own 2,.i x.2.2.2.1]
def vfq:q24T→St:=fun x=>let xh:=x.2.2.2.2.2.2.2.2;[.arr tVersion x.2.2.2.2.1,.box [.str x.2.2.2.2.2.1,.str x.2.2.2.2.2.2.1,.bool x.2.2.2.2.2.2.2.1,.i xh.1],.arr tVersion xh.2]
def vxn:q24T→List AV:=fun x=>[.lst tWrite x.1,.i x.2.1,.own 0,.i x.2.2.1,.bp 1 0,.own 2,.i x.2.2.2.1]
def vwa:q24T→St:=fun x=>let xh:=x.2.2.2.2.2.2.2.2;[.arr tVersion x.2.2.2.2.1,.box [.str x.2.2.2.2.2.1,.str x.2.2.2.2.2.2.1,.bool x.2.2.2.2.2.2.2.1,.i xh.1],.arr tVersion xh.2]
def vxl:q23T→List AV:=fun x=>[.lst tWrite x.1,.i x.2.1,.own 0,.i x.2.2.1]
def vx6:q23T→St:=fun x=>[.arr tVersion x.2.2.2]
def vjk:Nat→Option LoopSpec
 |6000003=>some (ctS [1,2,7,8,9,10,11] [] [.lst tWrite,.i,.own 0,.i,.bp 1 0,.own 2,.i] [.arr tVersion,.box [.str,.str,.bool,.i],.arr tVersion] vcu (fun p q=>(p.1,p.2.1,p.2.2.2.1,p.2.2.2.2.2.2.1,q.1,q.2.1.1,q.2.1.2.1,q.2.1.2.2.1,q.2.1.2.2.2.1,q.2.2.1)) (fun k=>(onE (exZ .norm vfp vfq) k)))
 |2=>some (lpS [1,2,7,8,9,10,11] [] [.lst tWrite,.i,.own 0,.i,.bp 1 0,.own 2,.i] [.arr tVersion,.box [.str,.str,.bool,.i],.arr tVersion] vkk (fun p q=>(p.1,p.2.1,p.2.2.2.1,p.2.2.2.2.2.2.1,q.1,q.2.1.1,q.2.1.2.1,q.2.1.2.2.1,q.2.1.2.2.2.1,q.2.2.1)) (fun k=>(onE (exZ (.exit 2) vxn vwa) k)))
 |0=>some (lpS [1,2,7,8] [] [.lst tWrite,.i,.own 0,.i] [.arr tVersion] vj4 (fun p q=>(p.1,p.2.1,p.2.2.2.1,q.1)) (fun k=>(onE (exZ (.exit 0) vxl vx6) k)))
 |2000008=>some ⟨[0,2,4,6,8,10,12,14,16,18,20,22,24,26,28,30,32,34,36,38,40,42,44,46,48,50,52,54,56,58,60,62,64,66],[],fun _ _ _=>none⟩
 |_=>none
theorem vpn:CtAt G10.shallow ⟨0,93,vjk⟩ Try.f13 6000003:=
 vrl rfl (fun x=>(n34n_jp6000003 x).p) vfp vfq (exZ .norm vfp vfq) (fun _ _=>⟨rfl,rfl⟩) (fun _ _=>rfl) (fun x=>by kernel_rfl)
theorem v9t:LpAt G10.shallow ⟨0,93,vjk⟩ Try.f13 2:=
 vas rfl (fun x=>(n34n_bp2 x).p) vxn vwa (exZ (.exit 2) vxn vwa) (fun _ _=>⟨rfl,rfl⟩) (fun z=>by(intro h;cases h)) (fun _ _=>rfl) (fun x=>by kernel_rfl)
theorem v73:LpAt G10.shallow ⟨0,93,vjk⟩ Try.f13 0:=
 vas rfl (fun x=>(n34n_bp0 x).p) vxl vx6 (exZ (.exit 0) vxl vx6) (fun _ _=>⟨rfl,rfl⟩) (fun z=>by(intro h;cases h)) (fun _ _=>rfl) (fun x=>by kernel_rfl)
theorem weo:vad Try.prog 13 wa2:=
 vbb G10_ok.shallow follows (Try.f13.body.getD .skip) Try.func13 (by kernel_rfl) fun p q=>⟨vjk,(n34n_p _ _ _).p.map _,by rw [v2u];kernel_rfl,vac (ids:=[6000003,2,0]) (by kernel_rfl) (by kernel_rfl) ⟨vpn,⟨v9t,⟨v73,trivial⟩⟩⟩⟩
def G11:Glob:=G10.add 13 wa2
theorem G11_ok:GlobOk Try.prog G11:=G10_ok.add ⟨Try.f13,Try.func13,by kernel_rfl,by kernel_rfl⟩ weo
def vyh:q33T→List AV:=fun x=>[.bp 0 0,.own 1,.i x.1]
def vwu:q33T→St:=fun x=>[.box [.lst (.int .u8) x.2.1,.i x.2.2.1,.i x.2.2.2.1],.arr tVersion x.2.2.2.2]
def vqy:Nat→Option LoopSpec
 |0=>some (lpS [0,3,4] [] [.bp 0 0,.own 1,.i] [.box [.lst (.int .u8),.i,.i],.arr tVersion] vkc (fun p q=>(p.2.2.1,q.1.1,q.1.2.1,q.1.2.2.1,q.2.1)) (fun k=>(onE (exZ (.exit 0) vyh vwu) k)))
 |_=>none
theorem v60:LpAt G11.shallow ⟨1,19,vqy⟩ Try.f114 0:=
 vas rfl (fun x=>(n55n_bp0 x).p) vyh vwu (exZ (.exit 0) vyh vwu) (fun _ _=>⟨rfl,rfl⟩) (fun z=>by(intro h;cases h)) (fun _ _=>rfl) (fun x=>by kernel_rfl)
theorem we8:vad Try.prog 114 waa:=
 vbb G11_ok.shallow follows (Try.f114.body.getD .skip) Try.func114 (by kernel_rfl) fun p q=>⟨vqy,(n55n_p _ _ _).p.map _,by rw [v5w];kernel_rfl,vac (ids:=[0]) (by kernel_rfl) (by kernel_rfl) ⟨v60,trivial⟩⟩
def G12:Glob:=G11.add 114 waa
theorem G12_ok:GlobOk Try.prog G12:=G11_ok.add ⟨Try.f114,Try.func114,by kernel_rfl,by kernel_rfl⟩ we8
def v01:Nat→Option LoopSpec
 |_=>none
theorem weu:vad Try.prog 53 wbh:=
 vbb G12_ok.shallow follows (Try.f53.body.getD .skip) Try.func53 (by kernel_rfl) fun p q=>⟨v01,(n32n_p _).p.map _,by rw [v2x];kernel_rfl,vac (ids:=[]) (by kernel_rfl) (by kernel_rfl) trivial⟩
def G13:Glob:=G12.add 53 wbh
theorem G13_ok:GlobOk Try.prog G13:=G12_ok.add ⟨Try.f53,Try.func53,by kernel_rfl,by kernel_rfl⟩ weu
def vxf:q32T→List AV:=fun x=>[.bp 0 0,.own 1,.i x.1]
def vw6:q32T→St:=fun x=>[.box [.lst (.int .u8) x.2.1,.i x.2.2.1,.i x.2.2.2.1],.arr (.i) x.2.2.2.2]
def vrp:Nat→Option LoopSpec
 |0=>some (lpS [3,4,5] [] [.bp 0 0,.own 1,.i] [.box [.lst (.int .u8),.i,.i],.arr (.i)] vkd (fun p q=>(p.2.2.1,q.1.1,q.1.2.1,q.1.2.2.1,q.2.1)) (fun k=>(onE (exZ (.exit 0) vxf vw6) k)))
 |_=>none
theorem v8l:LpAt G13.shallow ⟨0,21,vrp⟩ Try.f65 0:=
 vas rfl (fun x=>(n28n_bp0 x).p) vxf vw6 (exZ (.exit 0) vxf vw6) (fun _ _=>⟨rfl,rfl⟩) (fun z=>by(intro h;cases h)) (fun _ _=>rfl) (fun x=>by kernel_rfl)
theorem wen:vad Try.prog 65 waz:=
 vbb G13_ok.shallow follows (Try.f65.body.getD .skip) Try.func65 (by kernel_rfl) fun p q=>⟨vrp,(n28n_p _).p.map _,by rw [v5s];kernel_rfl,vac (ids:=[0]) (by kernel_rfl) (by kernel_rfl) ⟨v8l,trivial⟩⟩
def G14:Glob:=G13.add 65 waz
theorem G14_ok:GlobOk Try.prog G14:=G13_ok.add ⟨Try.f65,Try.func65,by kernel_rfl,by kernel_rfl⟩ wen
def vwx:q11T→List AV:=fun x=>[.lst tVersion x.1,.str x.2.1,.i x.2.2.1,.i x.2.2.2.1,.lst tVersion x.2.2.2.2.1,.i x.2.2.2.2.2.1,.i x.2.2.2.2.2.2]
def vv7:q11T→St:=fun x=>[]
def vrc:Nat→Option LoopSpec
 |0=>some (lpS [0,1,2,7,10,11,12] [] [.lst tVersion,.str,.i,.i,.lst tVersion,.i,.i] [] vhs (fun p q=>(p.1,p.2.1,p.2.2.1,p.2.2.2.1,p.2.2.2.2.1,p.2.2.2.2.2.1,p.2.2.2.2.2.2.1)) (fun k=>(onE (exZ (.exit 0) vwx vv7) k)))
 |2000005=>some ⟨[0,2,4,6,8,10,12,14,16,18,20,22,24,26,28,30,32,34,36,38,40,42,44,46],[],fun _ _ _=>none⟩
 |_=>none
theorem v71:LpAt G14 ⟨0,44,vrc⟩ Try.f123 0:=
 vas rfl (fun x=>(n16n_bp0 x).p) vwx vv7 (exZ (.exit 0) vwx vv7) (fun _ _=>⟨rfl,rfl⟩) (fun z=>by(intro h;cases h)) (fun _ _=>rfl) (fun x=>by kernel_rfl)
theorem weh:vad Try.prog 123 wap:=
 vbb G14_ok follows (Try.f123.body.getD .skip) Try.func123 (by kernel_rfl) fun p q=>⟨vrc,(n16n_p _ _ _).p.map _,by rw [v55];kernel_rfl,vac (ids:=[0]) (by kernel_rfl) (by kernel_rfl) ⟨v71,trivial⟩⟩
def G15:Glob:=G14.add 123 wap
theorem G15_ok:GlobOk Try.prog G15:=G14_ok.add ⟨Try.f123,Try.func123,by kernel_rfl,by kernel_rfl⟩ weh
def vxw:q30T→List AV:=fun x=>[.str x.1,.i x.2.1,.own 1,.i x.2.2.1,.i x.2.2.2.1]
def vxv:q30T→St:=fun x=>[.box [.own 1],.arr tVersion x.2.2.2.2]
def vp5:Nat→Option LoopSpec
 |0=>some (lpS [0,4,7,8,9] [] [.str,.i,.own 1,.i,.i] [.box [.own 1],.arr tVersion] vh1 (fun p q=>(p.1,p.2.1,p.2.2.2.1,p.2.2.2.2.1,q.2.1)) (fun k=>(onE (exZ (.exit 0) vxw vxv) k)))
 |_=>none
theorem v7r:LpAt G15 ⟨2,21,vp5⟩ Try.f131 0:=
 vas rfl (fun x=>(n11n_bp0 x).p) vxw vxv (exZ (.exit 0) vxw vxv) (fun _ _=>⟨rfl,rfl⟩) (fun z=>by(intro h;cases h)) (fun _ _=>rfl) (fun x=>by kernel_rfl)
theorem wfl:vad Try.prog 131 wav:=
 vbb G15_ok follows (Try.f131.body.getD .skip) Try.func131 (by kernel_rfl) fun p q=>⟨vp5,(n11n_p _ _).p.map _,by rw [v54];kernel_rfl,vac (ids:=[0]) (by kernel_rfl) (by kernel_rfl) ⟨v7r,trivial⟩⟩
def G16:Glob:=G15.add 131 wav
theorem G16_ok:GlobOk Try.prog G16:=G15_ok.add ⟨Try.f131,Try.func131,by kernel_rfl,by kernel_rfl⟩ wfl
def ve3:q14T→List AV:=fun x=>[.lst tVersion x.1,.i x.2.1,.bp 0 0,.bp 1 0,.lst tVersion x.2.2.1,.i x.2.2.2.1,.i x.2.2.2.2.1,.bool x.2.2.2.2.2.1]
def ve0:q14T→St:=fun x=>let xh:=x.2.2.2.2.2.2.2.2;[.box [.own 2],.box [.str x.2.2.2.2.2.2.1,.str x.2.2.2.2.2.2.2.1,.bool xh.1,.i xh.2.1],.arr tVersion xh.2.2]
def vw5:q13T→List AV:=fun x=>[.lst tVersion x.1,.i x.2.1,.bp 0 0,.lst tVersion x.2.2.1,.i x.2.2.2.1,.i x.2.2.2.2.1]
def vx4:q13T→St:=fun x=>[.box [.own 1],.arr tVersion x.2.2.2.2.2]
def vwb:q39T→List AV:=fun x=>[.i x.1,.fn 131 [.bp 0 0],.own 1,.own 2,.i x.2.1,.i x.2.2.1]
def vxm:q39T→St:=fun x=>[.box [.own 2],.arr tVersion x.2.2.2.1,.arr tVersion x.2.2.2.2]
def vjl:Nat→Option LoopSpec
 |15000006=>some (ctS [0,1,5,7,12,13,14,31] [none,none,none,none,none,none,none,none,some tVersion] [.lst tVersion,.i,.bp 0 0,.bp 1 0,.lst tVersion,.i,.i,.bool] [.box [.own 2],.box [.str,.str,.bool,.i],.arr tVersion] vb4 (fun p q=>(p.1,p.2.1,p.2.2.2.2.1,p.2.2.2.2.2.1,p.2.2.2.2.2.2.1,p.2.2.2.2.2.2.2.1,q.2.1.1,q.2.1.2.1,q.2.1.2.2.1,q.2.1.2.2.2.1,q.2.2.1)) (fun k=>(onE (exZ .norm ve3 ve0) k)))
 |0=>some (lpS [0,1,5,12,13,14] [none,none,none,none,none,none,some tVersion] [.lst tVersion,.i,.bp 0 0,.lst tVersion,.i,.i] [.box [.own 1],.arr tVersion] vht (fun p q=>(p.1,p.2.1,p.2.2.2.1,p.2.2.2.2.1,p.2.2.2.2.2.1,q.2.1)) (fun k=>(onE (exZ (.exit 0) vw5 vx4) k)))
 |2=>some (lpS [1,8,9,38,39,40] [none,none,some tVersion,some tVersion,none,none,some tVersion] [.i,.fn 131 [.bp 0 0],.own 1,.own 2,.i,.i] [.box [.own 2],.arr tVersion,.arr tVersion] vil (fun p q=>(p.1,p.2.2.2.2.1,p.2.2.2.2.2.1,q.2.1,q.2.2.1)) (fun k=>(onE (exZ (.exit 2) vwb vxm) k)))
 |_=>none
theorem vnu:CtAt G16 ⟨0,66,vjl⟩ Try.f66 15000006:=
 vrl rfl (fun x=>(n10n_jp15000006 x).p) ve3 ve0 (exZ .norm ve3 ve0) (fun _ _=>⟨rfl,rfl⟩) (fun _ _=>rfl) (fun x=>by kernel_rfl)
theorem v8f:LpAt G16 ⟨0,66,vjl⟩ Try.f66 0:=
 vas rfl (fun x=>(n10n_bp0 x).p) vw5 vx4 (exZ (.exit 0) vw5 vx4) (fun _ _=>⟨rfl,rfl⟩) (fun z=>by(intro h;cases h)) (fun _ _=>rfl) (fun x=>by kernel_rfl)
theorem v67:LpAt G16 ⟨0,66,vjl⟩ Try.f66 2:=
 vas rfl (fun x=>(n10n_bp2 x).p) vwb vxm (exZ (.exit 2) vwb vxm) (fun _ _=>⟨rfl,rfl⟩) (fun z=>by(intro h;cases h)) (fun _ _=>rfl) (fun x=>by kernel_rfl)
theorem wd2:vad Try.prog 66 wax:=
 vbb G16_ok follows (Try.f66.body.getD .skip) Try.func66 (by kernel_rfl) fun p q=>⟨vjl,(n10n_p _ _).p.map _,by rw [v40];kernel_rfl,vac (ids:=[15000006,0,2]) (by kernel_rfl) (by kernel_rfl) ⟨vnu,⟨v8f,⟨v67,trivial⟩⟩⟩⟩
def G17:Glob:=G16.add 66 wax
theorem G17_ok:GlobOk Try.prog G17:=G16_ok.add ⟨Try.f66,Try.func66,by kernel_rfl,by kernel_rfl⟩ wd2
def v07:Nat→Option LoopSpec
 |_=>none
theorem wd3:vad Try.prog 55 wbk:=
 vbb G17_ok follows (Try.f55.body.getD .skip) Try.func55 (by kernel_rfl) fun p q=>⟨v07,n19n_p.p.map _,by rw [v41];kernel_rfl,vac (ids:=[]) (by kernel_rfl) (by kernel_rfl) trivial⟩
def G18:Glob:=G17.add 55 wbk
theorem G18_ok:GlobOk Try.prog G18:=G17_ok.add ⟨Try.f55,Try.func55,by kernel_rfl,by kernel_rfl⟩ wd3
theorem vjo:vad Try.prog 116 vcx:=by
 intro args s k r hk
 unfold vcx at hk
 rw [v6k]at hk
 unfold vve at hk
 have e:Try.laysSort_ren.f 190=116:=by kernel_rfl
 exact e▸vsj Try.laysSort args s k r hk
def G19:Glob:=G18.add 116 vcx
theorem G19_ok:GlobOk Try.prog G19:=G18_ok.add ⟨Try.f116,Try.func116,by kernel_rfl,by kernel_rfl⟩ vjo
def vwr:(Int×Nat×Int×(List ByteArray))→List AV:=fun x=>[.own 0,.i x.1,.win 0 x.2.1,.i x.2.2.1]
def vw3:(Int×Nat×Int×(List ByteArray))→St:=fun x=>[.arr .str x.2.2.2]
def vwz:q31T→List AV:=fun x=>[.own 0,.own 1,.i x.1]
def vx0:q31T→St:=fun x=>[.arr .str x.2.1,.arr .str x.2.2]
def vy2:(Int×(List ByteArray))→Out×List AV×St:=fun z=>(.ret,[.own 0,.own 1,.i z.1],[.gone,.arr .str z.2])
def vl0:Nat→Option LoopSpec
 |2=>some (lpS [0,3,4,5] [] [.own 0,.i,.win 0,.i] [.arr .str] vgj (fun p q=>(p.2.1,p.2.2.1,p.2.2.2.1,q.1)) (fun k=>(onE (exZ (.exit 2) vwr vw3) k)))
 |0=>some (lpS [0,2,3] [none,some .str] [.own 0,.own 1,.i] [.arr .str,.arr .str] vfm (fun p q=>(p.2.2.1,q.1,q.2.1)) (fun k=>(Sum.elim (onE (exZ (.exit 0) vwz vx0) k) (onE vy2 k))))
 |2000006=>some ⟨[0,2,4,6,8,10,12,14,16,18],[],fun _ _ _=>none⟩
 |2000011=>some ⟨[0,2,4,6,8,10,12,14,16,18],[],fun _ _ _=>none⟩
 |_=>none
theorem v7l:LpAt G19 ⟨1,61,vl0⟩ Try.f117 2:=
 vas rfl (fun x=>(n23n_bp2 x).p) vwr vw3 (exZ (.exit 2) vwr vw3) (fun _ _=>⟨rfl,rfl⟩) (fun z=>by(intro h;cases h)) (fun _ _=>rfl) (fun x=>by kernel_rfl)
theorem v8o:LpAt G19 ⟨1,61,vl0⟩ Try.f117 0:=
 vas rfl (fun x=>(n23n_bp0 x).p) vwz vx0 (Sum.elim ((exZ (.exit 0) vwz vx0)) (vy2)) (fun _ _=>⟨rfl,rfl⟩) (fun z=>by rcases z with z|z<;>(intro h;cases h)) (fun k z=>by rcases z with z|z<;>rfl) (fun x=>by kernel_rfl)
theorem vg2:vad Try.prog 117 vdl:=
 vbb G19_ok follows (Try.f117.body.getD .skip) Try.func117 (by kernel_rfl) fun p q=>⟨vl0,(n23n_p _).p.map2 _ _,by rw [v5o];kernel_rfl,vac (ids:=[2,0]) (by kernel_rfl) (by kernel_rfl) ⟨v7l,⟨v8o,trivial⟩⟩⟩
def G20:Glob:=G19.add 117 vdl
theorem G20_ok:GlobOk Try.prog G20:=G19_ok.add ⟨Try.f117,Try.func117,by kernel_rfl,by kernel_rfl⟩ vg2
def vv4:q17T→List AV:=fun x=>[.own 0,.lst tVersion x.1,.i x.2.1,.i x.2.2.1]
def vxh:q17T→St:=fun x=>[.arr .str x.2.2.2]
def vq7:Nat→Option LoopSpec
 |0=>some (lpS [3,6,7,8] [some .str] [.own 0,.lst tVersion,.i,.i] [.arr .str] via (fun p q=>(p.2.1,p.2.2.1,p.2.2.2.1,q.1)) (fun k=>(onE (exZ (.exit 0) vv4 vxh) k)))
 |_=>none
theorem v8i:LpAt G20 ⟨0,22,vq7⟩ Try.f115 0:=
 vas rfl (fun x=>(n15n_bp0 x).p) vv4 vxh (exZ (.exit 0) vv4 vxh) (fun _ _=>⟨rfl,rfl⟩) (fun z=>by(intro h;cases h)) (fun _ _=>rfl) (fun x=>by kernel_rfl)
theorem wfe:vad Try.prog 115 wbl:=
 vbb G20_ok follows (Try.f115.body.getD .skip) Try.func115 (by kernel_rfl) fun p q=>⟨vq7,(n15n_p _).p.map _,by rw [v50];kernel_rfl,vac (ids:=[0]) (by kernel_rfl) (by kernel_rfl) ⟨v8i,trivial⟩⟩
def G21:Glob:=G20.add 115 wbl
theorem G21_ok:GlobOk Try.prog G21:=G20_ok.add ⟨Try.f115,Try.func115,by kernel_rfl,by kernel_rfl⟩ wfe
def v1u:Nat→Option LoopSpec
 |_=>none
theorem wfn:vad Try.prog 61 wac:=
 vbb G21_ok follows (Try.f61.body.getD .skip) Try.func61 (by kernel_rfl) fun p q=>⟨v1u,(n09n_p _ _ _).p.map _,by rw [v52];kernel_rfl,vac (ids:=[]) (by kernel_rfl) (by kernel_rfl) trivial⟩
def G22:Glob:=G21.add 61 wac
theorem G22_ok:GlobOk Try.prog G22:=G21_ok.add ⟨Try.f61,Try.func61,by kernel_rfl,by kernel_rfl⟩ wfn
def v19:Nat→Option LoopSpec
 |_=>none
theorem wdn:vad Try.prog 118 waw:=
 vbb G22_ok follows (Try.f118.body.getD .skip) Try.func118 (by kernel_rfl) fun p q=>⟨v19,(n04n_p _ _).p.map _,by rw [v4t];kernel_rfl,vac (ids:=[]) (by kernel_rfl) (by kernel_rfl) trivial⟩
def G23:Glob:=G22.add 118 waw
theorem G23_ok:GlobOk Try.prog G23:=G22_ok.add ⟨Try.f118,Try.func118,by kernel_rfl,by kernel_rfl⟩ wdn
def vxd:q21T→List AV:=fun x=>[.lst tVersion x.1,.i x.2.1,.bp 0 0,.own 1,.own 2,.i x.2.2.1,.i x.2.2.2.1]
def vwd:q21T→St:=fun x=>[.box [.str x.2.2.2.2.1,.str x.2.2.2.2.2.1],.arr tRange x.2.2.2.2.2.2.1,.arr .str x.2.2.2.2.2.2.2]
def vqk:Nat→Option LoopSpec
 |0=>some (lpS [0,2,4,7,13,14,15] [none,none,none,some tRange] [.lst tVersion,.i,.bp 0 0,.own 1,.own 2,.i,.i] [.box [.str,.str],.arr tRange,.arr .str] vgr (fun p q=>(p.1,p.2.1,p.2.2.2.2.2.1,p.2.2.2.2.2.2.1,q.1.1,q.1.2.1,q.2.1,q.2.2.1)) (fun k=>(onE (exZ (.exit 0) vxd vwd) k)))
 |_=>none
theorem v7q:LpAt G23 ⟨0,40,vqk⟩ Try.f58 0:=
 vas rfl (fun x=>(n08n_bp0 x).p) vxd vwd (exZ (.exit 0) vxd vwd) (fun _ _=>⟨rfl,rfl⟩) (fun z=>by(intro h;cases h)) (fun _ _=>rfl) (fun x=>by kernel_rfl)
theorem wc5:vad Try.prog 58 v90:=
 vbb G23_ok follows (Try.f58.body.getD .skip) Try.func58 (by kernel_rfl) fun p q=>⟨vqk,(n08n_p _ _ _).p.map _,by rw [v4n];kernel_rfl,vac (ids:=[0]) (by kernel_rfl) (by kernel_rfl) ⟨v7q,trivial⟩⟩
def G24:Glob:=G23.add 58 v90
theorem G24_ok:GlobOk Try.prog G24:=G23_ok.add ⟨Try.f58,Try.func58,by kernel_rfl,by kernel_rfl⟩ wc5
def voh:q6T→List AV:=fun x=>[.lst tRange x.1,.lst tRange x.2.1,.bool x.2.2.1,.i x.2.2.2]
def vno:q6T→St:=fun x=>[]
def vq6:Nat→Option LoopSpec
 |0=>some (lpS [0,1,4,5] [] [.lst tRange,.lst tRange,.bool,.i] [] vit (fun p q=>(p.1,p.2.1,p.2.2.1,p.2.2.2.1)) (fun k=>(Sum.elim (onE (exZ .ret voh vno) k) (onE (exZ (.exit 0) voh vno) k))))
 |2000006=>some ⟨[0,2,4,6,8,10,12,14,16],[],fun _ _ _=>none⟩
 |_=>none
theorem v9v:LpAt G24 ⟨0,26,vq6⟩ Try.f57 0:=
 vas rfl (fun x=>(n21n_bp0 x).p) voh vno (Sum.elim ((exZ .ret voh vno)) ((exZ (.exit 0) voh vno))) (fun _ _=>⟨rfl,rfl⟩) (fun z=>by rcases z with z|z<;>(intro h;cases h)) (fun k z=>by rcases z with z|z<;>rfl) (fun x=>by kernel_rfl)
theorem wd9:vad Try.prog 57 wau:=
 vbb G24_ok follows (Try.f57.body.getD .skip) Try.func57 (by kernel_rfl) fun p q=>⟨vq6,(n21n_p _ _).p.map _,by rw [v4c];kernel_rfl,vac (ids:=[0]) (by kernel_rfl) (by kernel_rfl) ⟨v9v,trivial⟩⟩
def G25:Glob:=G24.add 57 wau
theorem G25_ok:GlobOk Try.prog G25:=G24_ok.add ⟨Try.f57,Try.func57,by kernel_rfl,by kernel_rfl⟩ wd9
def vyg:(Int×Int×Int×(List Int))→List AV:=fun x=>[.i x.1,.int .u8 x.2.1,.own 0,.i x.2.2.1]
def vxa:(Int×Int×Int×(List Int))→St:=fun x=>[.arr (.int .u8) x.2.2.2]
def vre:Nat→Option LoopSpec
 |0=>some (lpS [0,1,5,6] [] [.i,.int .u8,.own 0,.i] [.arr (.int .u8)] vj8 (fun p q=>(p.1,p.2.1,p.2.2.2.1,q.1)) (fun k=>(onE (exZ (.exit 0) vyg vxa) k)))
 |_=>none
theorem v9d:LpAt G25.shallow ⟨0,20,vre⟩ Try.f167 0:=
 vas rfl (fun x=>(n42n_bp0 x).p) vyg vxa (exZ (.exit 0) vyg vxa) (fun _ _=>⟨rfl,rfl⟩) (fun z=>by(intro h;cases h)) (fun _ _=>rfl) (fun x=>by kernel_rfl)
theorem wda:vad Try.prog 167 v9z:=
 vbb G25_ok.shallow follows (Try.f167.body.getD .skip) Try.func167 (by kernel_rfl) fun p q=>⟨vre,(n42n_p _ _).p.map _,by rw [v6r];kernel_rfl,vac (ids:=[0]) (by kernel_rfl) (by kernel_rfl) ⟨v9d,trivial⟩⟩
def G26:Glob:=G25.add 167 v9z
theorem G26_ok:GlobOk Try.prog G26:=G25_ok.add ⟨Try.f167,Try.func167,by kernel_rfl,by kernel_rfl⟩ wda
def v06:Nat→Option LoopSpec
 |_=>none
theorem wei:vad Try.prog 126 wba:=
 vbb G26_ok.shallow follows (Try.f126.body.getD .skip) Try.func126 (by kernel_rfl) fun p q=>⟨v06,(n51n_p _ _ _).p.map _,by rw [v2v];kernel_rfl,vac (ids:=[]) (by kernel_rfl) (by kernel_rfl) trivial⟩
def G27:Glob:=G26.add 126 wba
theorem G27_ok:GlobOk Try.prog G27:=G26_ok.add ⟨Try.f126,Try.func126,by kernel_rfl,by kernel_rfl⟩ wei
def v00:Nat→Option LoopSpec
 |_=>none
theorem web:vad Try.prog 67 v97:=
 vbb G27_ok.shallow follows (Try.f67.body.getD .skip) Try.func67 (by kernel_rfl) fun p q=>⟨v00,(n31n_p _).p.map _,by rw [v42];kernel_rfl,vac (ids:=[]) (by kernel_rfl) (by kernel_rfl) trivial⟩
def G28:Glob:=G27.add 67 v97
theorem G28_ok:GlobOk Try.prog G28:=G27_ok.add ⟨Try.f67,Try.func67,by kernel_rfl,by kernel_rfl⟩ web
def vvx:q12T→List AV:=fun x=>[.lst tVersion x.1,.str x.2.1,.i x.2.2.1,.i x.2.2.2.1,.i x.2.2.2.2]
def vxe:q12T→St:=fun x=>[]
def vp9:Nat→Option LoopSpec
 |0=>some (lpS [0,1,2,7,8] [] [.lst tVersion,.str,.i,.i,.i] [] vid (fun p q=>(p.1,p.2.1,p.2.2.1,p.2.2.2.1,p.2.2.2.2.1)) (fun k=>(onE (exZ (.exit 0) vvx vxe) k)))
 |2000005=>some ⟨[0,2,4,6,8,10,12,14,16,18,20,22,24,26,28,30,32,34,36,38,40,42,44,46,48,50,52,54,56,58,60,62,64],[],fun _ _ _=>none⟩
 |_=>none
theorem v74:LpAt G28.shallow ⟨0,50,vp9⟩ Try.f127 0:=
 vas rfl (fun x=>(n52n_bp0 x).p) vvx vxe (exZ (.exit 0) vvx vxe) (fun _ _=>⟨rfl,rfl⟩) (fun z=>by(intro h;cases h)) (fun _ _=>rfl) (fun x=>by kernel_rfl)
theorem we9:vad Try.prog 127 wa5:=
 vbb G28_ok.shallow follows (Try.f127.body.getD .skip) Try.func127 (by kernel_rfl) fun p q=>⟨vp9,(n52n_p _ _ _).p.map _,by rw [v5q];kernel_rfl,vac (ids:=[0]) (by kernel_rfl) (by kernel_rfl) ⟨v74,trivial⟩⟩
def G29:Glob:=G28.add 127 wa5
theorem G29_ok:GlobOk Try.prog G29:=G28_ok.add ⟨Try.f127,Try.func127,by kernel_rfl,by kernel_rfl⟩ we9
def ve7:q20T→List AV:=fun x=>[.lst tVersion x.1,.i x.2.1,.own 0,.i x.2.2.1,.bool x.2.2.2.1]
def vez:q20T→St:=fun x=>[.arr tVersion x.2.2.2.2]
def vwt:q19T→List AV:=fun x=>[.lst tVersion x.1,.i x.2.1,.own 0,.i x.2.2.1]
def vwj:q19T→St:=fun x=>[.arr tVersion x.2.2.2]
def ve4:q38T→List AV:=fun x=>[.i x.1,.own 0,.own 1,.i x.2.1,.bool x.2.2.1]
def vex:q38T→St:=fun x=>[.arr tVersion x.2.2.2.1,.arr tVersion x.2.2.2.2]
def vxo:q40T→List AV:=fun x=>[.i x.1,.own 0,.own 1,.i x.2.1,.i x.2.2.1,.i x.2.2.2.1]
def vw4:q40T→St:=fun x=>[.arr tVersion x.2.2.2.2.1,.arr tVersion x.2.2.2.2.2]
def vxy:q37T→List AV:=fun x=>[.i x.1,.own 0,.own 1,.i x.2.1]
def vxg:q37T→St:=fun x=>[.arr tVersion x.2.2.1,.arr tVersion x.2.2.2]
def ven:Nat→Option LoopSpec
 |15000007=>some (ctS [0,1,5,6,38] [] [.lst tVersion,.i,.own 0,.i,.bool] [.arr tVersion] vb2 (fun p q=>(p.1,p.2.1,p.2.2.2.1,p.2.2.2.2.1,q.1)) (fun k=>(onE (exZ .norm ve7 vez) k)))
 |0=>some (lpS [0,1,5,6] [] [.lst tVersion,.i,.own 0,.i] [.arr tVersion] vi1 (fun p q=>(p.1,p.2.1,p.2.2.2.1,q.1)) (fun k=>(onE (exZ (.exit 0) vwt vwj) k)))
 |15000019=>some (ctS [1,5,8,9,90] [] [.i,.own 0,.own 1,.i,.bool] [.arr tVersion,.arr tVersion] vbq (fun p q=>(p.1,p.2.2.2.1,p.2.2.2.2.1,q.1,q.2.1)) (fun k=>(onE (exZ .norm ve4 vex) k)))
 |4=>some (lpS [1,5,8,9,10,11] [] [.i,.own 0,.own 1,.i,.i,.i] [.arr tVersion,.arr tVersion] vix (fun p q=>(p.1,p.2.2.2.1,p.2.2.2.2.1,p.2.2.2.2.2.1,q.1,q.2.1)) (fun k=>(onE (exZ (.exit 4) vxo vw4) k)))
 |2=>some (lpS [1,5,8,9] [] [.i,.own 0,.own 1,.i] [.arr tVersion,.arr tVersion] vgo (fun p q=>(p.1,p.2.2.2.1,q.1,q.2.1)) (fun k=>(onE (exZ (.exit 2) vxy vxg) k)))
 |2000016=>some ⟨[0,2,4,6,8,10,12,14,16,18,20],[],fun _ _ _=>none⟩
 |_=>none
theorem vns:CtAt G29.shallow ⟨0,99,ven⟩ Try.f72 15000007:=
 vrl rfl (fun x=>(n39n_jp15000007 x).p) ve7 vez (exZ .norm ve7 vez) (fun _ _=>⟨rfl,rfl⟩) (fun _ _=>rfl) (fun x=>by kernel_rfl)
theorem v8t:LpAt G29.shallow ⟨0,99,ven⟩ Try.f72 0:=
 vas rfl (fun x=>(n39n_bp0 x).p) vwt vwj (exZ (.exit 0) vwt vwj) (fun _ _=>⟨rfl,rfl⟩) (fun z=>by(intro h;cases h)) (fun _ _=>rfl) (fun x=>by kernel_rfl)
theorem vpk:CtAt G29.shallow ⟨0,99,ven⟩ Try.f72 15000019:=
 vrl rfl (fun x=>(n39n_jp15000019 x).p) ve4 vex (exZ .norm ve4 vex) (fun _ _=>⟨rfl,rfl⟩) (fun _ _=>rfl) (fun x=>by kernel_rfl)
theorem v8g:LpAt G29.shallow ⟨0,99,ven⟩ Try.f72 4:=
 vas rfl (fun x=>(n39n_bp4 x).p) vxo vw4 (exZ (.exit 4) vxo vw4) (fun _ _=>⟨rfl,rfl⟩) (fun z=>by(intro h;cases h)) (fun _ _=>rfl) (fun x=>by kernel_rfl)
theorem v9s:LpAt G29.shallow ⟨0,99,ven⟩ Try.f72 2:=
 vas rfl (fun x=>(n39n_bp2 x).p) vxy vxg (exZ (.exit 2) vxy vxg) (fun _ _=>⟨rfl,rfl⟩) (fun z=>by(intro h;cases h)) (fun _ _=>rfl) (fun x=>by kernel_rfl)
theorem wd0:vad Try.prog 72 wbe:=
 vbb G29_ok.shallow follows (Try.f72.body.getD .skip) Try.func72 (by kernel_rfl) fun p q=>⟨ven,(n39n_p _ _).p.map _,by rw [v5d];kernel_rfl,vac (ids:=[15000007,0,15000019,4,2]) (by kernel_rfl) (by kernel_rfl) ⟨vns,⟨v8t,⟨vpk,⟨v8g,⟨v9s,trivial⟩⟩⟩⟩⟩⟩
def G30:Glob:=G29.add 72 wbe
theorem G30_ok:GlobOk Try.prog G30:=G29_ok.add ⟨Try.f72,Try.func72,by kernel_rfl,by kernel_rfl⟩ wd0
def v1t:Nat→Option LoopSpec
 |_=>none
theorem wdw:vad Try.prog 68 wab:=
 vbb G30_ok.shallow follows (Try.f68.body.getD .skip) Try.func68 (by kernel_rfl) fun p q=>⟨v1t,(n29n_p _).p.map _,by rw [v3o];kernel_rfl,vac (ids:=[]) (by kernel_rfl) (by kernel_rfl) trivial⟩
def G31:Glob:=G30.add 68 wab
theorem G31_ok:GlobOk Try.prog G31:=G30_ok.add ⟨Try.f68,Try.func68,by kernel_rfl,by kernel_rfl⟩ wdw
def v2d:Nat→Option LoopSpec
 |_=>none
theorem wd4:vad Try.prog 133 wah:=
 vbb G31_ok.shallow follows (Try.f133.body.getD .skip) Try.func133 (by kernel_rfl) fun p q=>⟨v2d,(n47n_p _ _ _).p.map _,by rw [v3b];kernel_rfl,vac (ids:=[]) (by kernel_rfl) (by kernel_rfl) trivial⟩
def G32:Glob:=G31.add 133 wah
theorem G32_ok:GlobOk Try.prog G32:=G31_ok.add ⟨Try.f133,Try.func133,by kernel_rfl,by kernel_rfl⟩ wd4
def v1y:Nat→Option LoopSpec
 |1000004=>some ⟨[1],[],fun _ _ _=>none⟩
 |_=>none
theorem we7:vad Try.prog 69 wbj:=
 vbb G32_ok.shallow follows (Try.f69.body.getD .skip) Try.func69 (by kernel_rfl) fun p q=>⟨v1y,(n30n_p _).p.map _,by rw [v28];kernel_rfl,vac (ids:=[]) (by kernel_rfl) (by kernel_rfl) trivial⟩
def G33:Glob:=G32.add 69 wbj
theorem G33_ok:GlobOk Try.prog G33:=G32_ok.add ⟨Try.f69,Try.func69,by kernel_rfl,by kernel_rfl⟩ we7
def v13:Nat→Option LoopSpec
 |_=>none
theorem wdd:vad Try.prog 129 wbd:=
 vbb G33_ok follows (Try.f129.body.getD .skip) Try.func129 (by kernel_rfl) fun p q=>⟨v13,(n17n_p _ _ _).p.map _,by rw [v3r];kernel_rfl,vac (ids:=[]) (by kernel_rfl) (by kernel_rfl) trivial⟩
def G34:Glob:=G33.add 129 wbd
theorem G34_ok:GlobOk Try.prog G34:=G33_ok.add ⟨Try.f129,Try.func129,by kernel_rfl,by kernel_rfl⟩ wdd
def vn2:(ByteArray×Bool×Int)→List AV:=fun x=>[.str x.1,.bool x.2.1,.i x.2.2]
def vo8:(ByteArray×Bool×Int)→St:=fun x=>[]
def vra:Nat→Option LoopSpec
 |0=>some (lpS [0,2,3] [] [.str,.bool,.i] [] vim (fun p q=>(p.1,p.2.1,p.2.2.1)) (fun k=>(Sum.elim (onE (exZ .ret vn2 vo8) k) (onE (exZ (.exit 0) vn2 vo8) k))))
 |_=>none
theorem v89:LpAt G34 ⟨0,23,vra⟩ Try.f128 0:=
 vas rfl (fun x=>(n05n_bp0 x).p) vn2 vo8 (Sum.elim ((exZ .ret vn2 vo8)) ((exZ (.exit 0) vn2 vo8))) (fun _ _=>⟨rfl,rfl⟩) (fun z=>by rcases z with z|z<;>(intro h;cases h)) (fun k z=>by rcases z with z|z<;>rfl) (fun x=>by kernel_rfl)
theorem weg:vad Try.prog 128 wa9:=
 vbb G34_ok follows (Try.f128.body.getD .skip) Try.func128 (by kernel_rfl) fun p q=>⟨vra,(n05n_p _).p.map _,by rw [v4g];kernel_rfl,vac (ids:=[0]) (by kernel_rfl) (by kernel_rfl) ⟨v89,trivial⟩⟩
def G35:Glob:=G34.add 128 wa9
theorem G35_ok:GlobOk Try.prog G35:=G34_ok.add ⟨Try.f128,Try.func128,by kernel_rfl,by kernel_rfl⟩ weg
def v2j:Nat→Option LoopSpec
 |_=>none
theorem wee:vad Try.prog 169 v99:=
 vbb G35_ok follows (Try.f169.body.getD .skip) Try.func169 (by kernel_rfl) fun p q=>⟨v2j,(n03n_p _).p.map _,by rw [v3u];kernel_rfl,vac (ids:=[]) (by kernel_rfl) (by kernel_rfl) trivial⟩
def G36:Glob:=G35.add 169 v99
theorem G36_ok:GlobOk Try.prog G36:=G35_ok.add ⟨Try.f169,Try.func169,by kernel_rfl,by kernel_rfl⟩ wee
def v1q:Nat→Option LoopSpec
 |_=>none
theorem wdr:vad Try.prog 140 wat:=
 vbb G36_ok follows (Try.f140.body.getD .skip) Try.func140 (by kernel_rfl) fun p q=>⟨v1q,(n01n_p _ _).p.map _,by rw [v5e];kernel_rfl,vac (ids:=[]) (by kernel_rfl) (by kernel_rfl) trivial⟩
def G37:Glob:=G36.add 140 wat
theorem G37_ok:GlobOk Try.prog G37:=G36_ok.add ⟨Try.f140,Try.func140,by kernel_rfl,by kernel_rfl⟩ wdr
def v1l:Nat→Option LoopSpec
 |_=>none
theorem wd8:vad Try.prog 170 v93:=
 vbb G37_ok follows (Try.f170.body.getD .skip) Try.func170 (by kernel_rfl) fun p q=>⟨v1l,(n02n_p _).p.map _,by rw [v37];kernel_rfl,vac (ids:=[]) (by kernel_rfl) (by kernel_rfl) trivial⟩
def G38:Glob:=G37.add 170 v93
theorem G38_ok:GlobOk Try.prog G38:=G37_ok.add ⟨Try.f170,Try.func170,by kernel_rfl,by kernel_rfl⟩ wd8
def v1v:Nat→Option LoopSpec
 |_=>none
theorem wdc:vad Try.prog 141 v96:=
 vbb G38_ok follows (Try.f141.body.getD .skip) Try.func141 (by kernel_rfl) fun p q=>⟨v1v,(n00n_p _ _).p.map _,by rw [v3y];kernel_rfl,vac (ids:=[]) (by kernel_rfl) (by kernel_rfl) trivial⟩
def G39:Glob:=G38.add 141 v96
theorem G39_ok:GlobOk Try.prog G39:=G38_ok.add ⟨Try.f141,Try.func141,by kernel_rfl,by kernel_rfl⟩ wdc
def v2q:Nat→Option LoopSpec
 |_=>none
theorem wdt:vad Try.prog 79 wak:=
 vbb G39_ok follows (Try.f79.body.getD .skip) Try.func79 (by kernel_rfl) fun p q=>⟨v2q,(n14n_p _ _).p.map _,by rw [v49];kernel_rfl,vac (ids:=[]) (by kernel_rfl) (by kernel_rfl) trivial⟩
def G40:Glob:=G39.add 79 wak
theorem G40_ok:GlobOk Try.prog G40:=G39_ok.add ⟨Try.f79,Try.func79,by kernel_rfl,by kernel_rfl⟩ wdt
def vor:q10T→List AV:=fun x=>[.lst tVersion x.1,.bool x.2.1,.lst tVersion x.2.2.1,.i x.2.2.2.1,.i x.2.2.2.2]
def vnn:q10T→St:=fun x=>[]
def vqq:Nat→Option LoopSpec
 |0=>some (lpS [0,2,5,6,7] [] [.lst tVersion,.bool,.lst tVersion,.i,.i] [] vi4 (fun p q=>(p.1,p.2.1,p.2.2.1,p.2.2.2.1,p.2.2.2.2.1)) (fun k=>(Sum.elim (onE (exZ .ret vor vnn) k) (onE (exZ (.exit 0) vor vnn) k))))
 |2000004=>some ⟨[0,2,5,6,8,10,12,14,16,18,20,22,24,26,28,30,32,34,36,38,40,42,45,46,48,50,52,54,56,58,60,62,64,66,68,71,72,74,76],[],fun _ _ _=>none⟩
 |_=>none
theorem v8n:LpAt G40 ⟨0,55,vqq⟩ Try.f64 0:=
 vas rfl (fun x=>(n12n_bp0 x).p) vor vnn (Sum.elim ((exZ .ret vor vnn)) ((exZ (.exit 0) vor vnn))) (fun _ _=>⟨rfl,rfl⟩) (fun z=>by rcases z with z|z<;>(intro h;cases h)) (fun k z=>by rcases z with z|z<;>rfl) (fun x=>by kernel_rfl)
theorem wdz:vad Try.prog 64 wan:=
 vbb G40_ok follows (Try.f64.body.getD .skip) Try.func64 (by kernel_rfl) fun p q=>⟨vqq,(n12n_p _).p.map _,by rw [v3i];kernel_rfl,vac (ids:=[0]) (by kernel_rfl) (by kernel_rfl) ⟨v8n,trivial⟩⟩
def G41:Glob:=G40.add 64 wan
theorem G41_ok:GlobOk Try.prog G41:=G40_ok.add ⟨Try.f64,Try.func64,by kernel_rfl,by kernel_rfl⟩ wdz
def vnx:q7T→List AV:=fun x=>[.lst tVersion x.1,.lst tVersion x.2.1,.bool x.2.2.1,.i x.2.2.2]
def vom:q7T→St:=fun x=>[]
def vqr:Nat→Option LoopSpec
 |0=>some (lpS [0,1,4,5] [] [.lst tVersion,.lst tVersion,.bool,.i] [] vib (fun p q=>(p.1,p.2.1,p.2.2.1,p.2.2.2.1)) (fun k=>(Sum.elim (onE (exZ .ret vnx vom) k) (onE (exZ (.exit 0) vnx vom) k))))
 |2000006=>some ⟨[0,2,4,6,8,10,12,14,16],[],fun _ _ _=>none⟩
 |_=>none
theorem v8r:LpAt G41 ⟨0,26,vqr⟩ Try.f70 0:=
 vas rfl (fun x=>(n22n_bp0 x).p) vnx vom (Sum.elim ((exZ .ret vnx vom)) ((exZ (.exit 0) vnx vom))) (fun _ _=>⟨rfl,rfl⟩) (fun z=>by rcases z with z|z<;>(intro h;cases h)) (fun k z=>by rcases z with z|z<;>rfl) (fun x=>by kernel_rfl)
theorem wef:vad Try.prog 70 wa7:=
 vbb G41_ok follows (Try.f70.body.getD .skip) Try.func70 (by kernel_rfl) fun p q=>⟨vqr,(n22n_p _ _).p.map _,by rw [v3e];kernel_rfl,vac (ids:=[0]) (by kernel_rfl) (by kernel_rfl) ⟨v8r,trivial⟩⟩
def G42:Glob:=G41.add 70 wa7
theorem G42_ok:GlobOk Try.prog G42:=G41_ok.add ⟨Try.f70,Try.func70,by kernel_rfl,by kernel_rfl⟩ wef
def v1g:Nat→Option LoopSpec
 |3000000=>some ⟨[],[some tVersion],fun _ _ _=>none⟩
 |_=>none
theorem vhk:vad Try.prog 168 vdy:=
 vbb G42_ok follows (Try.f168.body.getD .skip) Try.func168 (by kernel_rfl) fun p q=>⟨v1g,(n26n_p _).p.map _,by rw [v5l];kernel_rfl,vac (ids:=[]) (by kernel_rfl) (by kernel_rfl) trivial⟩
def G43:Glob:=G42.add 168 vdy
theorem G43_ok:GlobOk Try.prog G43:=G42_ok.add ⟨Try.f168,Try.func168,by kernel_rfl,by kernel_rfl⟩ vhk
def vxk:q0T→List AV:=fun x=>[.lst (.slice tVersion) x.1,.i x.2.1,.lst (.slice tVersion) x.2.2.1,.i x.2.2.2.1,.i x.2.2.2.2]
def vwo:q0T→St:=fun x=>[]
def vxr:q1T→List AV:=fun x=>[.own 0,.lst (.slice tVersion) x.1,.i x.2.1,.i x.2.2.1]
def vvy:q1T→St:=fun x=>[.arr tVersion x.2.2.2]
def vlp:Nat→Option LoopSpec
 |0=>some (lpS [0,3,9,10,11] [] [.lst (.slice tVersion),.i,.lst (.slice tVersion),.i,.i] [] vii (fun p q=>(p.1,p.2.1,p.2.2.1,p.2.2.2.1,p.2.2.2.2.1)) (fun k=>(onE (exZ (.exit 0) vxk vwo) k)))
 |2=>some (lpS [6,25,26,27] [] [.own 0,.lst (.slice tVersion),.i,.i] [.arr tVersion] vh2 (fun p q=>(p.2.1,p.2.2.1,p.2.2.2.1,q.1)) (fun k=>(onE (exZ (.exit 2) vxr vvy) k)))
 |_=>none
theorem v7b:LpAt G43 ⟨0,36,vlp⟩ Try.f137 0:=
 vas rfl (fun x=>(n24n_bp0 x).p) vxk vwo (exZ (.exit 0) vxk vwo) (fun _ _=>⟨rfl,rfl⟩) (fun z=>by(intro h;cases h)) (fun _ _=>rfl) (fun x=>by kernel_rfl)
theorem v9k:LpAt G43 ⟨0,36,vlp⟩ Try.f137 2:=
 vas rfl (fun x=>(n24n_bp2 x).p) vxr vvy (exZ (.exit 2) vxr vvy) (fun _ _=>⟨rfl,rfl⟩) (fun z=>by(intro h;cases h)) (fun _ _=>rfl) (fun x=>by kernel_rfl)
theorem wec:vad Try.prog 137 wbc:=
 vbb G43_ok follows (Try.f137.body.getD .skip) Try.func137 (by kernel_rfl) fun p q=>⟨vlp,(n24n_p _).p.map _,by rw [v48];kernel_rfl,vac (ids:=[0,2]) (by kernel_rfl) (by kernel_rfl) ⟨v7b,⟨v9k,trivial⟩⟩⟩
def G44:Glob:=G43.add 137 wbc
theorem G44_ok:GlobOk Try.prog G44:=G43_ok.add ⟨Try.f137,Try.func137,by kernel_rfl,by kernel_rfl⟩ wec
def v2e:Nat→Option LoopSpec
 |_=>none
theorem wff:vad Try.prog 136 wbo:=
 vbb G44_ok follows (Try.f136.body.getD .skip) Try.func136 (by kernel_rfl) fun p q=>⟨v2e,n13n_p.p.map _,by rw [v4r];kernel_rfl,vac (ids:=[]) (by kernel_rfl) (by kernel_rfl) trivial⟩
def G45:Glob:=G44.add 136 wbo
theorem G45_ok:GlobOk Try.prog G45:=G44_ok.add ⟨Try.f136,Try.func136,by kernel_rfl,by kernel_rfl⟩ wff
def vpf:q5T→List AV:=fun x=>[.lst tRange x.1,.lst tRange x.2.1,.bool x.2.2.1,.i x.2.2.2.1,.i x.2.2.2.2]
def vn0:q5T→St:=fun x=>[]
def vpy:Nat→Option LoopSpec
 |0=>some (lpS [0,1,4,12,13] [] [.lst tRange,.lst tRange,.bool,.i,.i] [] vi3 (fun p q=>(p.1,p.2.1,p.2.2.1,p.2.2.2.1,p.2.2.2.2.1)) (fun k=>(Sum.elim (onE (exZ .ret vpf vn0) k) (onE (exZ (.exit 0) vpf vn0) k))))
 |2000006=>some ⟨[0,2,4,6,8,10,12,14,16],[],fun _ _ _=>none⟩
 |_=>none
theorem v7w:LpAt G45 ⟨0,26,vpy⟩ Try.f135 0:=
 vas rfl (fun x=>(n25n_bp0 x).p) vpf vn0 (Sum.elim ((exZ .ret vpf vn0)) ((exZ (.exit 0) vpf vn0))) (fun _ _=>⟨rfl,rfl⟩) (fun z=>by rcases z with z|z<;>(intro h;cases h)) (fun k z=>by rcases z with z|z<;>rfl) (fun x=>by kernel_rfl)
theorem wdq:vad Try.prog 135 wbm:=
 vbb G45_ok follows (Try.f135.body.getD .skip) Try.func135 (by kernel_rfl) fun p q=>⟨vpy,(n25n_p _ _).p.map _,by rw [v5m];kernel_rfl,vac (ids:=[0]) (by kernel_rfl) (by kernel_rfl) ⟨v7w,trivial⟩⟩
def G46:Glob:=G45.add 135 wbm
theorem G46_ok:GlobOk Try.prog G46:=G45_ok.add ⟨Try.f135,Try.func135,by kernel_rfl,by kernel_rfl⟩ wdq
def v1e:Nat→Option LoopSpec
 |2000001=>some ⟨[0,4,8,12,3,7,11,15,17,18],[],fun _ _ _=>none⟩
 |_=>none
theorem wc6:vad Try.prog 134 v98:=
 vbb G46_ok follows (Try.f134.body.getD .skip) Try.func134 (by kernel_rfl) fun p q=>⟨v1e,(n07n_p _ _ _).p.map _,by rw [v35];kernel_rfl,vac (ids:=[]) (by kernel_rfl) (by kernel_rfl) trivial⟩
def G47:Glob:=G46.add 134 v98
theorem G47_ok:GlobOk Try.prog G47:=G46_ok.add ⟨Try.f134,Try.func134,by kernel_rfl,by kernel_rfl⟩ wc6
def vo1:q36T→List AV:=fun x=>[.i x.1,.bool x.2.1,.fn 134 [.bp 0 0,.bp 1 0],.own 2,.i x.2.2.1,.i x.2.2.2.1]
def vnr:q36T→St:=fun x=>[.box [.lst tVersion x.2.2.2.2.1],.box [.lst tVersion x.2.2.2.2.2.1],.arr tVersion x.2.2.2.2.2.2]
def vrr:Nat→Option LoopSpec
 |0=>some (lpS [2,6,7,14,15,16] [] [.i,.bool,.fn 134 [.bp 0 0,.bp 1 0],.own 2,.i,.i] [.box [.lst tVersion],.box [.lst tVersion],.arr tVersion] vke (fun p q=>(p.1,p.2.1,p.2.2.2.2.1,p.2.2.2.2.2.1,q.1.1,q.2.1.1,q.2.2.1)) (fun k=>(Sum.elim (onE (exZ .ret vo1 vnr) k) (onE (exZ (.exit 0) vo1 vnr) k))))
 |_=>none
theorem v7g:LpAt G47 ⟨0,35,vrr⟩ Try.f71 0:=
 vas rfl (fun x=>(n06n_bp0 x).p) vo1 vnr (Sum.elim ((exZ .ret vo1 vnr)) ((exZ (.exit 0) vo1 vnr))) (fun _ _=>⟨rfl,rfl⟩) (fun z=>by rcases z with z|z<;>(intro h;cases h)) (fun k z=>by rcases z with z|z<;>rfl) (fun x=>by kernel_rfl)
theorem we4:vad Try.prog 71 waq:=
 vbb G47_ok follows (Try.f71.body.getD .skip) Try.func71 (by kernel_rfl) fun p q=>⟨vrr,(n06n_p _ _ _).p.map _,by rw [v2t];kernel_rfl,vac (ids:=[0]) (by kernel_rfl) (by kernel_rfl) ⟨v7g,trivial⟩⟩
def G48:Glob:=G47.add 71 waq
theorem G48_ok:GlobOk Try.prog G48:=G47_ok.add ⟨Try.f71,Try.func71,by kernel_rfl,by kernel_rfl⟩ we4
def v2s:Nat→Option LoopSpec
 |_=>none
theorem wdo:vad Try.prog 138 v92:=
 vbb G48_ok.shallow follows (Try.f138.body.getD .skip) Try.func138 (by kernel_rfl) fun p q=>⟨v2s,n50n_p.p.map _,by rw [v5h];kernel_rfl,vac (ids:=[]) (by kernel_rfl) (by kernel_rfl) trivial⟩
def G49:Glob:=G48.add 138 v92
theorem G49_ok:GlobOk Try.prog G49:=G48_ok.add ⟨Try.f138,Try.func138,by kernel_rfl,by kernel_rfl⟩ wdo
def v2m:Nat→Option LoopSpec
 |_=>none
theorem wfc:vad Try.prog 164 waj:=
 vbb G49_ok.shallow follows (Try.f164.body.getD .skip) Try.func164 (by kernel_rfl) fun p q=>⟨v2m,(n33n_p _ _).p.map _,by rw [v6f];kernel_rfl,vac (ids:=[]) (by kernel_rfl) (by kernel_rfl) trivial⟩
def G50:Glob:=G49.add 164 waj
theorem G50_ok:GlobOk Try.prog G50:=G49_ok.add ⟨Try.f164,Try.func164,by kernel_rfl,by kernel_rfl⟩ wfc
def vw9:q16T→List AV:=fun x=>[.lst tVersion x.1,.bp 0 0,.own 1,.i x.2.1,.str x.2.2.1,.own 2,.i x.2.2.2.1]
def vx9:q16T→St:=fun x=>[.box [.str x.2.2.2.2.1,.str x.2.2.2.2.2.1],.arr .str x.2.2.2.2.2.2.1,.arr .str x.2.2.2.2.2.2.2]
def vyc:q16T→List AV:=fun x=>[.lst tVersion x.1,.bp 0 0,.own 1,.i x.2.1,.str x.2.2.1,.own 2,.i x.2.2.2.1]
def vv5:q16T→St:=fun x=>[.box [.str x.2.2.2.2.1,.str x.2.2.2.2.2.1],.arr .str x.2.2.2.2.2.2.1,.arr .str x.2.2.2.2.2.2.2]
def vxq:q15T→List AV:=fun x=>[.lst tVersion x.1,.bp 0 0,.own 1,.i x.2.1]
def vxj:q15T→St:=fun x=>[.box [.str x.2.2.1,.str x.2.2.2.1],.arr .str x.2.2.2.2]
def vi8:Nat→Option LoopSpec
 |2=>some (lpS [0,3,5,6,7,8,9] [] [.lst tVersion,.bp 0 0,.own 1,.i,.str,.own 2,.i] [.box [.str,.str],.arr .str,.arr .str] vhn (fun p q=>(p.1,p.2.2.2.1,p.2.2.2.2.1,p.2.2.2.2.2.2.1,q.1.1,q.1.2.1,q.2.1,q.2.2.1)) (fun k=>(onE (exZ (.exit 2) vw9 vx9) k)))
 |4=>some (lpS [0,3,5,6,7,8,10] [] [.lst tVersion,.bp 0 0,.own 1,.i,.str,.own 2,.i] [.box [.str,.str],.arr .str,.arr .str] vhx (fun p q=>(p.1,p.2.2.2.1,p.2.2.2.2.1,p.2.2.2.2.2.2.1,q.1.1,q.1.2.1,q.2.1,q.2.2.1)) (fun k=>(onE (exZ (.exit 4) vyc vv5) k)))
 |0=>some (lpS [0,3,5,6] [] [.lst tVersion,.bp 0 0,.own 1,.i] [.box [.str,.str],.arr .str] viy (fun p q=>(p.1,p.2.2.2.1,q.1.1,q.1.2.1,q.2.1)) (fun k=>(onE (exZ (.exit 0) vxq vxj) k)))
 |_=>none
theorem v69:LpAt G50.shallow ⟨0,72,vi8⟩ Try.f120 2:=
 vas rfl (fun x=>(n53n_bp2 x).p) vw9 vx9 (exZ (.exit 2) vw9 vx9) (fun _ _=>⟨rfl,rfl⟩) (fun z=>by(intro h;cases h)) (fun _ _=>rfl) (fun x=>by kernel_rfl)
theorem v9f:LpAt G50.shallow ⟨0,72,vi8⟩ Try.f120 4:=
 vas rfl (fun x=>(n53n_bp4 x).p) vyc vv5 (exZ (.exit 4) vyc vv5) (fun _ _=>⟨rfl,rfl⟩) (fun z=>by(intro h;cases h)) (fun _ _=>rfl) (fun x=>by kernel_rfl)
theorem v7e:LpAt G50.shallow ⟨0,72,vi8⟩ Try.f120 0:=
 vas rfl (fun x=>(n53n_bp0 x).p) vxq vxj (exZ (.exit 0) vxq vxj) (fun _ _=>⟨rfl,rfl⟩) (fun z=>by(intro h;cases h)) (fun _ _=>rfl) (fun x=>by kernel_rfl)
theorem wdb:vad Try.prog 120 wbp:=
 vbb G50_ok.shallow follows (Try.f120.body.getD .skip) Try.func120 (by kernel_rfl) fun p q=>⟨vi8,(n53n_p _ _).p.map _,by rw [v4h];kernel_rfl,vac (ids:=[2,4,0]) (by kernel_rfl) (by kernel_rfl) ⟨v69,⟨v9f,⟨v7e,trivial⟩⟩⟩⟩
def G51:Glob:=G50.add 120 wbp
theorem G51_ok:GlobOk Try.prog G51:=G50_ok.add ⟨Try.f120,Try.func120,by kernel_rfl,by kernel_rfl⟩ wdb
def v2n:Nat→Option LoopSpec
 |_=>none
theorem wfk:vad Try.prog 63 wae:=
 vbb G51_ok.shallow follows (Try.f63.body.getD .skip) Try.func63 (by kernel_rfl) fun p q=>⟨v2n,(n38n_p _ _ _).p.map _,by rw [v56];kernel_rfl,vac (ids:=[]) (by kernel_rfl) (by kernel_rfl) trivial⟩
def G52:Glob:=G51.add 63 wae
theorem G52_ok:GlobOk Try.prog G52:=G51_ok.add ⟨Try.f63,Try.func63,by kernel_rfl,by kernel_rfl⟩ wfk
def vwg:q18T→List AV:=fun x=>[.lst tVersion x.1,.i x.2.1,.own 0,.own 1,.i x.2.2.1]
def vwc:q18T→St:=fun x=>[.arr tRange x.2.2.2.1,.arr .str x.2.2.2.2]
def vqx:Nat→Option LoopSpec
 |0=>some (lpS [0,2,7,8,9] [] [.lst tVersion,.i,.own 0,.own 1,.i] [.arr tRange,.arr .str] vh3 (fun p q=>(p.1,p.2.1,p.2.2.2.2.1,q.1,q.2.1)) (fun k=>(onE (exZ (.exit 0) vwg vwc) k)))
 |_=>none
theorem v61:LpAt G52.shallow ⟨0,43,vqx⟩ Try.f74 0:=
 vas rfl (fun x=>(n37n_bp0 x).p) vwg vwc (exZ (.exit 0) vwg vwc) (fun _ _=>⟨rfl,rfl⟩) (fun z=>by(intro h;cases h)) (fun _ _=>rfl) (fun x=>by kernel_rfl)
theorem wes:vad Try.prog 74 wam:=
 vbb G52_ok.shallow follows (Try.f74.body.getD .skip) Try.func74 (by kernel_rfl) fun p q=>⟨vqx,(n37n_p _ _ _).p.map _,by rw [v4l];kernel_rfl,vac (ids:=[0]) (by kernel_rfl) (by kernel_rfl) ⟨v61,trivial⟩⟩
def G53:Glob:=G52.add 74 wam
theorem G53_ok:GlobOk Try.prog G53:=G52_ok.add ⟨Try.f74,Try.func74,by kernel_rfl,by kernel_rfl⟩ wes
def vn6:q6T→List AV:=fun x=>[.lst tRange x.1,.lst tRange x.2.1,.bool x.2.2.1,.i x.2.2.2]
def vot:q6T→St:=fun x=>[]
def vq3:Nat→Option LoopSpec
 |0=>some (lpS [0,1,4,5] [] [.lst tRange,.lst tRange,.bool,.i] [] vhr (fun p q=>(p.1,p.2.1,p.2.2.1,p.2.2.2.1)) (fun k=>(Sum.elim (onE (exZ .ret vn6 vot) k) (onE (exZ (.exit 0) vn6 vot) k))))
 |2000006=>some ⟨[0,2,4,6,8,10,12,14,16],[],fun _ _ _=>none⟩
 |_=>none
theorem v6t:LpAt G53.shallow ⟨0,26,vq3⟩ Try.f139 0:=
 vas rfl (fun x=>(n54n_bp0 x).p) vn6 vot (Sum.elim ((exZ .ret vn6 vot)) ((exZ (.exit 0) vn6 vot))) (fun _ _=>⟨rfl,rfl⟩) (fun z=>by rcases z with z|z<;>(intro h;cases h)) (fun k z=>by rcases z with z|z<;>rfl) (fun x=>by kernel_rfl)
theorem wdj:vad Try.prog 139 v95:=
 vbb G53_ok.shallow follows (Try.f139.body.getD .skip) Try.func139 (by kernel_rfl) fun p q=>⟨vq3,(n54n_p _ _).p.map _,by rw [v6i];kernel_rfl,vac (ids:=[0]) (by kernel_rfl) (by kernel_rfl) ⟨v6t,trivial⟩⟩
def G54:Glob:=G53.add 139 v95
theorem G54_ok:GlobOk Try.prog G54:=G53_ok.add ⟨Try.f139,Try.func139,by kernel_rfl,by kernel_rfl⟩ wdj
def vc3:q9T→List AV:=fun x=>[.lst tVersion x.1,.lst tVersion x.2.1,.i x.2.2.1,.bool x.2.2.2.1,.bp 0 0,.i x.2.2.2.2.1,.i x.2.2.2.2.2.1]
def vc2:q9T→St:=fun x=>[.box [.str x.2.2.2.2.2.2.1,.str x.2.2.2.2.2.2.2]]
def vnj:q8T→List AV:=fun x=>[.lst tVersion x.1,.lst tVersion x.2.1,.i x.2.2.1,.bool x.2.2.2.1,.bp 0 0,.i x.2.2.2.2.1]
def voz:q8T→St:=fun x=>[.box [.str x.2.2.2.2.2.1,.str x.2.2.2.2.2.2]]
def vln:Nat→Option LoopSpec
 |5000011=>some (ctS [0,1,2,6,7,8,9] [] [.lst tVersion,.lst tVersion,.i,.bool,.bp 0 0,.i,.i] [.box [.str,.str]] vb8 (fun p q=>(p.1,p.2.1,p.2.2.1,p.2.2.2.1,p.2.2.2.2.2.1,p.2.2.2.2.2.2.1,q.1.1,q.1.2.1)) (fun k=>(Sum.elim (onE (exZ .ret vc3 vc2) k) (onE (exZ .norm vc3 vc2) k))))
 |0=>some (lpS [0,1,2,6,7,8] [] [.lst tVersion,.lst tVersion,.i,.bool,.bp 0 0,.i] [.box [.str,.str]] vgu (fun p q=>(p.1,p.2.1,p.2.2.1,p.2.2.2.1,p.2.2.2.2.2.1,q.1.1,q.1.2.1)) (fun k=>(Sum.elim (onE (exZ (.exit 0) vnj voz) k) (onE (exZ .ret vnj voz) k))))
 |2000002=>some ⟨[0,2,4,8,10,12,7,15,17,18],[],fun _ _ _=>none⟩
 |2000011=>some ⟨[0,2,4,6,8,10,12,16,18,20,15,23,25,26,28],[],fun _ _ _=>none⟩
 |_=>none
theorem vpu:CtAt G54.shallow ⟨0,62,vln⟩ Try.f73 5000011:=
 vrl rfl (fun x=>(n36n_jp5000011 x).p) vc3 vc2 (Sum.elim ((exZ .ret vc3 vc2)) ((exZ .norm vc3 vc2))) (fun _ _=>⟨rfl,rfl⟩) (fun k z=>by rcases z with z|z<;>rfl) (fun x=>by kernel_rfl)
theorem v7a:LpAt G54.shallow ⟨0,62,vln⟩ Try.f73 0:=
 vas rfl (fun x=>(n36n_bp0 x).p) vnj voz (Sum.elim ((exZ (.exit 0) vnj voz)) ((exZ .ret vnj voz))) (fun _ _=>⟨rfl,rfl⟩) (fun z=>by rcases z with z|z<;>(intro h;cases h)) (fun k z=>by rcases z with z|z<;>rfl) (fun x=>by kernel_rfl)
theorem wev:vad Try.prog 73 wbf:=
 vbb G54_ok.shallow follows (Try.f73.body.getD .skip) Try.func73 (by kernel_rfl) fun p q=>⟨vln,(n36n_p _ _ _).p.map _,by rw [v3x];kernel_rfl,vac (ids:=[5000011,0]) (by kernel_rfl) (by kernel_rfl) ⟨vpu,⟨v7a,trivial⟩⟩⟩
def G55:Glob:=G54.add 73 wbf
theorem G55_ok:GlobOk Try.prog G55:=G54_ok.add ⟨Try.f73,Try.func73,by kernel_rfl,by kernel_rfl⟩ wev
def vpi:q2T→List AV:=fun x=>[.lst (.int .u8) x.1,.bool x.2.1,.own 0,.i x.2.2.1,.own 1,.i x.2.2.2.1]
def vn3:q2T→St:=fun x=>[.arr tVersion x.2.2.2.2.1,.arr tVersion x.2.2.2.2.2]
def vqg:Nat→Option LoopSpec
 |0=>some (lpS [0,2,3,4,5,6] [] [.lst (.int .u8),.bool,.own 0,.i,.own 1,.i] [.arr tVersion,.arr tVersion] vig (fun p q=>(p.1,p.2.1,p.2.2.2.1,p.2.2.2.2.2.1,q.1,q.2.1)) (fun k=>(Sum.elim (onE (exZ .ret vpi vn3) k) (onE (exZ (.exit 0) vpi vn3) k))))
 |2000014=>some ⟨[0,3,4,6,8,10,12,14,16,18,20,22,26,25,29,30,32,34,36,38,41,42,44,46,48,52,54,51,57,59,60,62,64,66,68,72,74,76,71,79,80,82,84,86,88,90,94,96,98,93,101,103,104,106],[],fun _ _ _=>none⟩
 |_=>none
theorem v9u:LpAt G55 ⟨0,112,vqg⟩ Try.f10 0:=
 vas rfl (fun x=>(n18n_bp0 x).p) vpi vn3 (Sum.elim ((exZ .ret vpi vn3)) ((exZ (.exit 0) vpi vn3))) (fun _ _=>⟨rfl,rfl⟩) (fun z=>by rcases z with z|z<;>(intro h;cases h)) (fun k z=>by rcases z with z|z<;>rfl) (fun x=>by kernel_rfl)
theorem wa8:vad Try.prog 10 v5n:=
 vbb G55_ok follows (Try.f10.body.getD .skip) Try.func10 (by kernel_rfl) fun p q=>⟨vqg,(n18n_p _).p.map _,by rw [v39];kernel_rfl,vac (ids:=[0]) (by kernel_rfl) (by kernel_rfl) ⟨v9u,trivial⟩⟩
def G56:Glob:=G55.add 10 v5n
theorem wfy:GlobOk Try.prog G56:=G55_ok.add ⟨Try.f10,Try.func10,by kernel_rfl,by kernel_rfl⟩ wa8
end
end Go.VE
