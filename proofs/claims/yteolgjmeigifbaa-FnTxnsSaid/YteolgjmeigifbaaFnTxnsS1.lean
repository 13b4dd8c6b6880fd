/- Each function told by its native program; written by gen.py. -/
import Derived.Test.YteolgjmeigifbaaFnTxnsS0
namespace Go.VE
open Go.Proofs
noncomputable section
set_option linter.unusedVariables false
set_option linter.unusedSimpArgs false
set_option maxRecDepth 100000
def wbc:Nat→Option LoopSpec
 |_=>none
theorem wqp:vae Try.prog 29 wmo:=
 vaw G0_ok follows (Try.f29.body.getD .skip) Try.func29 (by kernel_rfl) fun p q=>⟨wbc,(n37n_p _).p.map _,by rw [we1];kernel_rfl,vab (ids:=[]) (by kernel_rfl) (by kernel_rfl) trivial⟩
def G1:Glob:=G0.add 29 wmo
theorem G1_ok:GlobOk Try.prog G1:=G0_ok.add ⟨Try.f29,Try.func29,by kernel_rfl,by kernel_rfl⟩ wqp
def vhv:((List Int)×Int×Int)→List AV:=fun x=>[.lst (.int .u8) x.1,.i x.2.1,.i x.2.2]
def vij:((List Int)×Int×Int)→St:=fun x=>[]
def v4m:((List Int)×Int×Int)→List AV:=fun x=>[.lst (.int .u8) x.1,.i x.2.1,.i x.2.2]
def v5r:((List Int)×Int×Int)→St:=fun x=>[]
def vpj:Nat→Option LoopSpec
 |6000001=>some (ctS [0,3,4] [] [.lst (.int .u8),.i,.i] [] vej (fun p q=>(p.1,p.2.1,p.2.2.1)) (fun k=>(onE (exZ .norm vhv vij) k)))
 |0=>some (lpS [0,3,4] [] [.lst (.int .u8),.i,.i] [] vng (fun p q=>(p.1,p.2.1,p.2.2.1)) (fun k=>(onE (exZ (.exit 0) v4m v5r) k)))
 |_=>none
theorem vt9:CtAt G1.shallow ⟨0,32,vpj⟩ Try.f94 6000001:=
 vcv rfl (fun x=>(n68n_jp6000001 x).p) vhv vij (exZ .norm vhv vij) (fun _ _=>⟨rfl,rfl⟩) (fun _ _=>rfl) (fun x=>by kernel_rfl)
theorem wih:LpAt G1.shallow ⟨0,32,vpj⟩ Try.f94 0:=
 vay rfl (fun x=>(n68n_bp0 x).p) v4m v5r (exZ (.exit 0) v4m v5r) (fun _ _=>⟨rfl,rfl⟩) (fun z=>by(intro h;cases h)) (fun _ _=>rfl) (fun x=>by kernel_rfl)
theorem wo0:vae Try.prog 94 wk5:=
 vaw G1_ok.shallow follows (Try.f94.body.getD .skip) Try.func94 (by kernel_rfl) fun p q=>⟨vpj,(n68n_p _).p.map _,by rw [wdm];kernel_rfl,vab (ids:=[6000001,0]) (by kernel_rfl) (by kernel_rfl) ⟨vt9,⟨wih,trivial⟩⟩⟩
def G2:Glob:=G1.add 94 wk5
theorem G2_ok:GlobOk Try.prog G2:=G1_ok.add ⟨Try.f94,Try.func94,by kernel_rfl,by kernel_rfl⟩ wo0
def v9u:Nat→Option LoopSpec
 |2000002=>some ⟨[0,2,4,6,8,10,12,14,16,18,20,22,24],[],fun _ _ _=>none⟩
 |2000003=>some ⟨[0,2,4,6,8,10,12,14,16,18],[],fun _ _ _=>none⟩
 |2000004=>some ⟨[0,2,4,6,8,10,12,14,16,18,20,22,24,26,28],[],fun _ _ _=>none⟩
 |_=>none
theorem wp7:vae Try.prog 173 wl9:=
 vaw G2_ok.shallow follows (Try.f173.body.getD .skip) Try.func173 (by kernel_rfl) fun p q=>⟨v9u,(n65n_p _ _ _).p.map _,by rw [wf5];kernel_rfl,vab (ids:=[]) (by kernel_rfl) (by kernel_rfl) trivial⟩
def G3:Glob:=G2.add 173 wl9
theorem G3_ok:GlobOk Try.prog G3:=G2_ok.add ⟨Try.f173,Try.func173,by kernel_rfl,by kernel_rfl⟩ wp7
def wbu:Nat→Option LoopSpec
 |_=>none
theorem wsn:vae Try.prog 97 wme:=
 vaw G3_ok.shallow follows (Try.f97.body.getD .skip) Try.func97 (by kernel_rfl) fun p q=>⟨wbu,(n64n_p _ _ _ _).p.map _,by rw [v9f];kernel_rfl,vab (ids:=[]) (by kernel_rfl) (by kernel_rfl) trivial⟩
def G4:Glob:=G3.add 97 wme
theorem G4_ok:GlobOk Try.prog G4:=G3_ok.add ⟨Try.f97,Try.func97,by kernel_rfl,by kernel_rfl⟩ wsn
def war:Nat→Option LoopSpec
 |_=>none
theorem wo5:vae Try.prog 179 wmv:=
 vaw G4_ok.shallow follows (Try.f179.body.getD .skip) Try.func179 (by kernel_rfl) fun p q=>⟨war,(n70n_p _ _ _ _).p.map _,by rw [wfq];kernel_rfl,vab (ids:=[]) (by kernel_rfl) (by kernel_rfl) trivial⟩
def G5:Glob:=G4.add 179 wmv
theorem G5_ok:GlobOk Try.prog G5:=G4_ok.add ⟨Try.f179,Try.func179,by kernel_rfl,by kernel_rfl⟩ wo5
def v98:Nat→Option LoopSpec
 |_=>none
theorem wqg:vae Try.prog 117 wmh:=
 vaw G5_ok.shallow follows (Try.f117.body.getD .skip) Try.func117 (by kernel_rfl) fun p q=>⟨v98,(n75n_p _ _ _).p.map _,by rw [v9c];kernel_rfl,vab (ids:=[]) (by kernel_rfl) (by kernel_rfl) trivial⟩
def G6:Glob:=G5.add 117 wmh
theorem G6_ok:GlobOk Try.prog G6:=G5_ok.add ⟨Try.f117,Try.func117,by kernel_rfl,by kernel_rfl⟩ wqg
def wao:Nat→Option LoopSpec
 |_=>none
theorem wrf:vae Try.prog 104 wl8:=
 vaw G6_ok.shallow follows (Try.f104.body.getD .skip) Try.func104 (by kernel_rfl) fun p q=>⟨wao,(n69n_p _ _ _ _).p.map _,by rw [wfi];kernel_rfl,vab (ids:=[]) (by kernel_rfl) (by kernel_rfl) trivial⟩
def G7:Glob:=G6.add 104 wl8
theorem G7_ok:GlobOk Try.prog G7:=G6_ok.add ⟨Try.f104,Try.func104,by kernel_rfl,by kernel_rfl⟩ wrf
def wa1:Nat→Option LoopSpec
 |_=>none
theorem wpx:vae Try.prog 102 wkv:=
 vaw G7_ok.shallow follows (Try.f102.body.getD .skip) Try.func102 (by kernel_rfl) fun p q=>⟨wa1,(n76n_p _ _ _).p.map _,by rw [wdd];kernel_rfl,vab (ids:=[]) (by kernel_rfl) (by kernel_rfl) trivial⟩
def G8:Glob:=G7.add 102 wkv
theorem G8_ok:GlobOk Try.prog G8:=G7_ok.add ⟨Try.f102,Try.func102,by kernel_rfl,by kernel_rfl⟩ wpx
def v36:q39T→List AV:=fun x=>[.bp 0 0,.own 1,.i x.1]
def v4t:q39T→St:=fun x=>[.box [.lst (.int .u8) x.2.1,.i x.2.2.1,.i x.2.2.2.1],.arr tRange x.2.2.2.2]
def vxm:Nat→Option LoopSpec
 |0=>some (lpS [0,3,4] [] [.bp 0 0,.own 1,.i] [.box [.lst (.int .u8),.i,.i],.arr tRange] vm4 (fun p q=>(p.2.2.1,q.1.1,q.1.2.1,q.1.2.2.1,q.2.1)) (fun k=>(onE (exZ (.exit 0) v36 v4t) k)))
 |_=>none
theorem why:LpAt G8.shallow ⟨1,18,vxm⟩ Try.f103 0:=
 vay rfl (fun x=>(n77n_bp0 x).p) v36 v4t (exZ (.exit 0) v36 v4t) (fun _ _=>⟨rfl,rfl⟩) (fun z=>by(intro h;cases h)) (fun _ _=>rfl) (fun x=>by kernel_rfl)
theorem wqr:vae Try.prog 103 wlk:=
 vaw G8_ok.shallow follows (Try.f103.body.getD .skip) Try.func103 (by kernel_rfl) fun p q=>⟨vxm,(n77n_p _ _ _).p.map _,by rw [we3];kernel_rfl,vab (ids:=[0]) (by kernel_rfl) (by kernel_rfl) ⟨why,trivial⟩⟩
def G9:Glob:=G8.add 103 wlk
theorem G9_ok:GlobOk Try.prog G9:=G8_ok.add ⟨Try.f103,Try.func103,by kernel_rfl,by kernel_rfl⟩ wqr
def wah:Nat→Option LoopSpec
 |_=>none
theorem wpr:vae Try.prog 178 wlp:=
 vaw G9_ok.shallow follows (Try.f178.body.getD .skip) Try.func178 (by kernel_rfl) fun p q=>⟨wah,(n78n_p _ _ _).p.map _,by rw [v61];kernel_rfl,vab (ids:=[]) (by kernel_rfl) (by kernel_rfl) trivial⟩
def G10:Glob:=G9.add 178 wlp
theorem G10_ok:GlobOk Try.prog G10:=G9_ok.add ⟨Try.f178,Try.func178,by kernel_rfl,by kernel_rfl⟩ wpr
def v3m:q12T→List AV:=fun x=>[.lst tWrite x.1,.bp 0 0,.own 1,.i x.2.1]
def v29:q12T→St:=fun x=>[.box [.str x.2.2.1,.str x.2.2.2.1,.bool x.2.2.2.2.1],.arr tWrite x.2.2.2.2.2]
def v45:q12T→List AV:=fun x=>[.lst tWrite x.1,.bp 0 0,.own 1,.i x.2.1]
def v4h:q12T→St:=fun x=>[.box [.str x.2.2.1,.str x.2.2.2.1,.bool x.2.2.2.2.1],.arr tWrite x.2.2.2.2.2]
def vpf:Nat→Option LoopSpec
 |0=>some (lpS [0,3,5,6] [] [.lst tWrite,.bp 0 0,.own 1,.i] [.box [.str,.str,.bool],.arr tWrite] vkz (fun p q=>(p.1,p.2.2.2.1,q.1.1,q.1.2.1,q.1.2.2.1,q.2.1)) (fun k=>(onE (exZ (.exit 0) v3m v29) k)))
 |2=>some (lpS [0,3,5,7] [] [.lst tWrite,.bp 0 0,.own 1,.i] [.box [.str,.str,.bool],.arr tWrite] vj3 (fun p q=>(p.1,p.2.2.2.1,q.1.1,q.1.2.1,q.1.2.2.1,q.2.1)) (fun k=>(onE (exZ (.exit 2) v45 v4h) k)))
 |2000005=>some ⟨[0,2,4,6,8,10,12,14],[],fun _ _ _=>none⟩
 |2000011=>some ⟨[0,2,4,6,8,10,12,14],[],fun _ _ _=>none⟩
 |_=>none
theorem wiv:LpAt G10.shallow ⟨0,56,vpf⟩ Try.f115 0:=
 vay rfl (fun x=>(n52n_bp0 x).p) v3m v29 (exZ (.exit 0) v3m v29) (fun _ _=>⟨rfl,rfl⟩) (fun z=>by(intro h;cases h)) (fun _ _=>rfl) (fun x=>by kernel_rfl)
theorem wjb:LpAt G10.shallow ⟨0,56,vpf⟩ Try.f115 2:=
 vay rfl (fun x=>(n52n_bp2 x).p) v45 v4h (exZ (.exit 2) v45 v4h) (fun _ _=>⟨rfl,rfl⟩) (fun z=>by(intro h;cases h)) (fun _ _=>rfl) (fun x=>by kernel_rfl)
theorem wq2:vae Try.prog 115 wk9:=
 vaw G10_ok.shallow follows (Try.f115.body.getD .skip) Try.func115 (by kernel_rfl) fun p q=>⟨vpf,(n52n_p _ _).p.map _,by rw [wcs];kernel_rfl,vab (ids:=[0,2]) (by kernel_rfl) (by kernel_rfl) ⟨wiv,⟨wjb,trivial⟩⟩⟩
def G11:Glob:=G10.add 115 wk9
theorem G11_ok:GlobOk Try.prog G11:=G10_ok.add ⟨Try.f115,Try.func115,by kernel_rfl,by kernel_rfl⟩ wq2
def v4w:q41T→List AV:=fun x=>[.bp 0 0,.own 1,.i x.1]
def v26:q41T→St:=fun x=>[.box [.lst (.int .u8) x.2.1,.i x.2.2.1,.i x.2.2.2.1],.arr tWrite x.2.2.2.2]
def vwa:Nat→Option LoopSpec
 |0=>some (lpS [0,3,4] [] [.bp 0 0,.own 1,.i] [.box [.lst (.int .u8),.i,.i],.arr tWrite] vhe (fun p q=>(p.2.2.1,q.1.1,q.1.2.1,q.1.2.2.1,q.2.1)) (fun k=>(onE (exZ (.exit 0) v4w v26) k)))
 |_=>none
theorem whj:LpAt G11.shallow ⟨1,17,vwa⟩ Try.f111 0:=
 vay rfl (fun x=>(n79n_bp0 x).p) v4w v26 (exZ (.exit 0) v4w v26) (fun _ _=>⟨rfl,rfl⟩) (fun z=>by(intro h;cases h)) (fun _ _=>rfl) (fun x=>by kernel_rfl)
theorem wpt:vae Try.prog 111 wm8:=
 vaw G11_ok.shallow follows (Try.f111.body.getD .skip) Try.func111 (by kernel_rfl) fun p q=>⟨vwa,(n79n_p _ _ _).p.map _,by rw [v78];kernel_rfl,vab (ids:=[0]) (by kernel_rfl) (by kernel_rfl) ⟨whj,trivial⟩⟩
def G12:Glob:=G11.add 111 wm8
theorem G12_ok:GlobOk Try.prog G12:=G11_ok.add ⟨Try.f111,Try.func111,by kernel_rfl,by kernel_rfl⟩ wpt
def v91:Nat→Option LoopSpec
 |1000011=>some ⟨[0],[],fun _ _ _=>none⟩
 |_=>none
theorem wr1:vae Try.prog 165 wle:=
 vaw G12_ok.shallow follows (Try.f165.body.getD .skip) Try.func165 (by kernel_rfl) fun p q=>⟨v91,(n89n_p _ _ _).p.map _,by rw [wgf];kernel_rfl,vab (ids:=[]) (by kernel_rfl) (by kernel_rfl) trivial⟩
def G13:Glob:=G12.add 165 wle
theorem G13_ok:GlobOk Try.prog G13:=G12_ok.add ⟨Try.f165,Try.func165,by kernel_rfl,by kernel_rfl⟩ wr1
def v96:Nat→Option LoopSpec
 |_=>none
theorem wql:vae Try.prog 108 wlv:=
 vaw G13_ok.shallow follows (Try.f108.body.getD .skip) Try.func108 (by kernel_rfl) fun p q=>⟨v96,(n85n_p _).p.map _,by rw [v8p];kernel_rfl,vab (ids:=[]) (by kernel_rfl) (by kernel_rfl) trivial⟩
def G14:Glob:=G13.add 108 wlv
theorem G14_ok:GlobOk Try.prog G14:=G13_ok.add ⟨Try.f108,Try.func108,by kernel_rfl,by kernel_rfl⟩ wql
def v34:(Int×Int×Int×(List Int))→List AV:=fun x=>[.i x.1,.int .u8 x.2.1,.own 0,.i x.2.2.1]
def v48:(Int×Int×Int×(List Int))→St:=fun x=>[.arr (.int .u8) x.2.2.2]
def vwv:Nat→Option LoopSpec
 |0=>some (lpS [0,1,5,6] [] [.i,.int .u8,.own 0,.i] [.arr (.int .u8)] vm2 (fun p q=>(p.1,p.2.1,p.2.2.2.1,q.1)) (fun k=>(onE (exZ (.exit 0) v34 v48) k)))
 |_=>none
theorem wjl:LpAt G14.shallow ⟨0,20,vwv⟩ Try.f180 0:=
 vay rfl (fun x=>(n67n_bp0 x).p) v34 v48 (exZ (.exit 0) v34 v48) (fun _ _=>⟨rfl,rfl⟩) (fun z=>by(intro h;cases h)) (fun _ _=>rfl) (fun x=>by kernel_rfl)
theorem wq4:vae Try.prog 180 wk7:=
 vaw G14_ok.shallow follows (Try.f180.body.getD .skip) Try.func180 (by kernel_rfl) fun p q=>⟨vwv,(n67n_p _ _).p.map _,by rw [wd7];kernel_rfl,vab (ids:=[0]) (by kernel_rfl) (by kernel_rfl) ⟨wjl,trivial⟩⟩
def G15:Glob:=G14.add 180 wk7
theorem G15_ok:GlobOk Try.prog G15:=G14_ok.add ⟨Try.f180,Try.func180,by kernel_rfl,by kernel_rfl⟩ wq4
def wa3:Nat→Option LoopSpec
 |_=>none
theorem wo2:vae Try.prog 110 wkz:=
 vaw G15_ok.shallow follows (Try.f110.body.getD .skip) Try.func110 (by kernel_rfl) fun p q=>⟨wa3,(n74n_p _ _ _).p.map _,by rw [wfg];kernel_rfl,vab (ids:=[]) (by kernel_rfl) (by kernel_rfl) trivial⟩
def G16:Glob:=G15.add 110 wkz
theorem G16_ok:GlobOk Try.prog G16:=G15_ok.add ⟨Try.f110,Try.func110,by kernel_rfl,by kernel_rfl⟩ wo2
def wab:Nat→Option LoopSpec
 |1000016=>some ⟨[0],[],fun _ _ _=>none⟩
 |_=>none
theorem wqa:vae Try.prog 93 wmf:=
 vaw G16_ok.shallow follows (Try.f93.body.getD .skip) Try.func93 (by kernel_rfl) fun p q=>⟨wab,(n83n_p _ _ _).p.map _,by rw [we7];kernel_rfl,vab (ids:=[]) (by kernel_rfl) (by kernel_rfl) trivial⟩
def G17:Glob:=G16.add 93 wmf
theorem G17_ok:GlobOk Try.prog G17:=G16_ok.add ⟨Try.f93,Try.func93,by kernel_rfl,by kernel_rfl⟩ wqa
def wbm:Nat→Option LoopSpec
 |_=>none
theorem wsh:vae Try.prog 30 wln:=
 vaw G17_ok.shallow follows (Try.f30.body.getD .skip) Try.func30 (by kernel_rfl) fun p q=>⟨wbm,(n47n_p _).p.map _,by rw [wbw];kernel_rfl,vab (ids:=[]) (by kernel_rfl) (by kernel_rfl) trivial⟩
def G18:Glob:=G17.add 30 wln
theorem G18_ok:GlobOk Try.prog G18:=G17_ok.add ⟨Try.f30,Try.func30,by kernel_rfl,by kernel_rfl⟩ wsh
def wac:Nat→Option LoopSpec
 |_=>none
theorem wqz:vae Try.prog 124 wly:=
 vaw G18_ok follows (Try.f124.body.getD .skip) Try.func124 (by kernel_rfl) fun p q=>⟨wac,(n34n_p _ _ _).p.map _,by rw [wd2];kernel_rfl,vab (ids:=[]) (by kernel_rfl) (by kernel_rfl) trivial⟩
def G19:Glob:=G18.add 124 wly
theorem G19_ok:GlobOk Try.prog G19:=G18_ok.add ⟨Try.f124,Try.func124,by kernel_rfl,by kernel_rfl⟩ wqz
def vr5:(ByteArray×Bool×Int)→List AV:=fun x=>[.str x.1,.bool x.2.1,.i x.2.2]
def vs9:(ByteArray×Bool×Int)→St:=fun x=>[]
def vwo:Nat→Option LoopSpec
 |0=>some (lpS [0,2,3] [] [.str,.bool,.i] [] vld (fun p q=>(p.1,p.2.1,p.2.2.1)) (fun k=>(Sum.elim (onE (exZ .ret vr5 vs9) k) (onE (exZ (.exit 0) vr5 vs9) k))))
 |_=>none
theorem wh8:LpAt G19 ⟨0,23,vwo⟩ Try.f126 0:=
 vay rfl (fun x=>(n00n_bp0 x).p) vr5 vs9 (Sum.elim ((exZ .ret vr5 vs9)) ((exZ (.exit 0) vr5 vs9))) (fun _ _=>⟨rfl,rfl⟩) (fun z=>by rcases z with z|z<;>(intro h;cases h)) (fun k z=>by rcases z with z|z<;>rfl) (fun x=>by kernel_rfl)
theorem wp1:vae Try.prog 126 wnf:=
 vaw G19_ok follows (Try.f126.body.getD .skip) Try.func126 (by kernel_rfl) fun p q=>⟨vwo,(n00n_p _).p.map _,by rw [we6];kernel_rfl,vab (ids:=[0]) (by kernel_rfl) (by kernel_rfl) ⟨wh8,trivial⟩⟩
def G20:Glob:=G19.add 126 wnf
theorem G20_ok:GlobOk Try.prog G20:=G19_ok.add ⟨Try.f126,Try.func126,by kernel_rfl,by kernel_rfl⟩ wp1
def waf:Nat→Option LoopSpec
 |_=>none
theorem wpz:vae Try.prog 106 wl7:=
 vaw G20_ok follows (Try.f106.body.getD .skip) Try.func106 (by kernel_rfl) fun p q=>⟨waf,(n03n_p _).p.map _,by rw [wfp];kernel_rfl,vab (ids:=[]) (by kernel_rfl) (by kernel_rfl) trivial⟩
def G21:Glob:=G20.add 106 wl7
theorem G21_ok:GlobOk Try.prog G21:=G20_ok.add ⟨Try.f106,Try.func106,by kernel_rfl,by kernel_rfl⟩ wpz
def v90:Nat→Option LoopSpec
 |_=>none
theorem wrg:vae Try.prog 112 wmy:=
 vaw G21_ok follows (Try.f112.body.getD .skip) Try.func112 (by kernel_rfl) fun p q=>⟨v90,(n14n_p _).p.map _,by rw [wem];kernel_rfl,vab (ids:=[]) (by kernel_rfl) (by kernel_rfl) trivial⟩
def G22:Glob:=G21.add 112 wmy
theorem G22_ok:GlobOk Try.prog G22:=G21_ok.add ⟨Try.f112,Try.func112,by kernel_rfl,by kernel_rfl⟩ wrg
def vtt:q11T→List AV:=fun x=>[.lst tWrite x.1,.bool x.2.1,.lst tWrite x.2.2.1,.i x.2.2.2.1,.i x.2.2.2.2]
def vtf:q11T→St:=fun x=>[]
def vw9:Nat→Option LoopSpec
 |0=>some (lpS [0,2,5,6,7] [] [.lst tWrite,.bool,.lst tWrite,.i,.i] [] vk8 (fun p q=>(p.1,p.2.1,p.2.2.1,p.2.2.2.1,p.2.2.2.2.1)) (fun k=>(Sum.elim (onE (exZ .ret vtt vtf) k) (onE (exZ (.exit 0) vtt vtf) k))))
 |2000004=>some ⟨[0,3,4,6,8,10,12,14,16,18,20,22,24,26,28,30,32,34],[],fun _ _ _=>none⟩
 |_=>none
theorem wki:LpAt G22 ⟨0,34,vw9⟩ Try.f125 0:=
 vay rfl (fun x=>(n15n_bp0 x).p) vtt vtf (Sum.elim ((exZ .ret vtt vtf)) ((exZ (.exit 0) vtt vtf))) (fun _ _=>⟨rfl,rfl⟩) (fun z=>by rcases z with z|z<;>(intro h;cases h)) (fun k z=>by rcases z with z|z<;>rfl) (fun x=>by kernel_rfl)
theorem wq8:vae Try.prog 125 wm1:=
 vaw G22_ok follows (Try.f125.body.getD .skip) Try.func125 (by kernel_rfl) fun p q=>⟨vw9,(n15n_p _).p.map _,by rw [wb9];kernel_rfl,vab (ids:=[0]) (by kernel_rfl) (by kernel_rfl) ⟨wki,trivial⟩⟩
def G23:Glob:=G22.add 125 wm1
theorem G23_ok:GlobOk Try.prog G23:=G22_ok.add ⟨Try.f125,Try.func125,by kernel_rfl,by kernel_rfl⟩ wq8
def vh0:q24T→List AV:=fun x=>[.bp 0 0,.bool x.1]
def vhb:q24T→St:=fun x=>[.box [.i x.2.1,.i x.2.2.1,.i x.2.2.2.1,.i x.2.2.2.2.1,.lst tRange x.2.2.2.2.2.1,.lst tWrite x.2.2.2.2.2.2.1,.bool x.2.2.2.2.2.2.2.1,.str x.2.2.2.2.2.2.2.2]]
def vhf:q24T→List AV:=fun x=>[.bp 0 0,.bool x.1]
def vib:q24T→St:=fun x=>[.box [.i x.2.1,.i x.2.2.1,.i x.2.2.2.1,.i x.2.2.2.2.1,.lst tRange x.2.2.2.2.2.1,.lst tWrite x.2.2.2.2.2.2.1,.bool x.2.2.2.2.2.2.2.1,.str x.2.2.2.2.2.2.2.2]]
def vrz:q17T→List AV:=fun x=>[.bp 0 0,.bool x.1,.lst tRange x.2.1,.i x.2.2.1,.i x.2.2.2.1]
def vr8:q17T→St:=fun x=>let xh:=x.2.2.2.2.2.2.2.2;[.box [.i x.2.2.2.2.1,.i x.2.2.2.2.2.1,.i x.2.2.2.2.2.2.1,.i x.2.2.2.2.2.2.2.1,.lst tRange xh.1,.lst tWrite xh.2.1,.bool xh.2.2.1,.str xh.2.2.2]]
def vmg:Nat→Option LoopSpec
 |5000011=>some (ctS [1,2] [] [.bp 0 0,.bool] [.box [.i,.i,.i,.i,.lst tRange,.lst tWrite,.bool,.str]] vb3 (fun p q=>(p.2.1,q.1.1,q.1.2.1,q.1.2.2.1,q.1.2.2.2.1,q.1.2.2.2.2.1,q.1.2.2.2.2.2.1,q.1.2.2.2.2.2.2.1,q.1.2.2.2.2.2.2.2.1)) (fun k=>(onE (exZ .ret vh0 vhb) k)))
 |5000009=>some (ctS [1,2] [] [.bp 0 0,.bool] [.box [.i,.i,.i,.i,.lst tRange,.lst tWrite,.bool,.str]] vcy (fun p q=>(p.2.1,q.1.1,q.1.2.1,q.1.2.2.1,q.1.2.2.2.1,q.1.2.2.2.2.1,q.1.2.2.2.2.2.1,q.1.2.2.2.2.2.2.1,q.1.2.2.2.2.2.2.2.1)) (fun k=>(onE (exZ .ret vhf vib) k)))
 |0=>some (lpS [1,2,6,7,8] [] [.bp 0 0,.bool,.lst tRange,.i,.i] [.box [.i,.i,.i,.i,.lst tRange,.lst tWrite,.bool,.str]] vka (fun p q=>(p.2.1,p.2.2.1,p.2.2.2.1,p.2.2.2.2.1,q.1.1,q.1.2.1,q.1.2.2.1,q.1.2.2.2.1,q.1.2.2.2.2.1,q.1.2.2.2.2.2.1,q.1.2.2.2.2.2.2.1,q.1.2.2.2.2.2.2.2.1)) (fun k=>(Sum.elim (onE (exZ .ret vrz vr8) k) (onE (exZ (.exit 0) vrz vr8) k))))
 |_=>none
theorem vu4:CtAt G23 ⟨0,93,vmg⟩ Try.f45 5000011:=
 vcv rfl (fun x=>(n10n_jp5000011 x).p) vh0 vhb (exZ .ret vh0 vhb) (fun _ _=>⟨rfl,rfl⟩) (fun _ _=>rfl) (fun x=>by kernel_rfl)
theorem vtw:CtAt G23 ⟨0,93,vmg⟩ Try.f45 5000009:=
 vcv rfl (fun x=>(n10n_jp5000009 x).p) vhf vib (exZ .ret vhf vib) (fun _ _=>⟨rfl,rfl⟩) (fun _ _=>rfl) (fun x=>by kernel_rfl)
theorem wio:LpAt G23 ⟨0,93,vmg⟩ Try.f45 0:=
 vay rfl (fun x=>(n10n_bp0 x).p) vrz vr8 (Sum.elim ((exZ .ret vrz vr8)) ((exZ (.exit 0) vrz vr8))) (fun _ _=>⟨rfl,rfl⟩) (fun z=>by rcases z with z|z<;>(intro h;cases h)) (fun k z=>by rcases z with z|z<;>rfl) (fun x=>by kernel_rfl)
theorem wr5:vae Try.prog 45 wm7:=
 vaw G23_ok follows (Try.f45.body.getD .skip) Try.func45 (by kernel_rfl) fun p q=>⟨vmg,(n10n_p _).p.map _,by rw [wgy];kernel_rfl,vab (ids:=[5000011,5000009,0]) (by kernel_rfl) (by kernel_rfl) ⟨vu4,⟨vtw,⟨wio,trivial⟩⟩⟩⟩
def G24:Glob:=G23.add 45 wm7
theorem G24_ok:GlobOk Try.prog G24:=G23_ok.add ⟨Try.f45,Try.func45,by kernel_rfl,by kernel_rfl⟩ wr5
def v43:(Int×(List Int))→List AV:=fun x=>[.i x.1,.own 0]
def v3n:(Int×(List Int))→St:=fun x=>[.arr (.int .u8) x.2]
def vwm:Nat→Option LoopSpec
 |0=>some (lpS [0,4] [none,some (.int .u8)] [.i,.own 0] [.arr (.int .u8)] vhi (fun p q=>(p.1,q.1)) (fun k=>(onE (exZ (.exit 0) v43 v3n) k)))
 |_=>none
theorem wi5:LpAt G24 ⟨0,25,vwm⟩ Try.f166 0:=
 vay rfl (fun x=>(n12n_bp0 x).p) v43 v3n (exZ (.exit 0) v43 v3n) (fun _ _=>⟨rfl,rfl⟩) (fun z=>by(intro h;cases h)) (fun _ _=>rfl) (fun x=>by kernel_rfl)
theorem wrr:vae Try.prog 166 wm9:=
 vaw G24_ok follows (Try.f166.body.getD .skip) Try.func166 (by kernel_rfl) fun p q=>⟨vwm,(n12n_p _).p.map _,by rw [v9k];kernel_rfl,vab (ids:=[0]) (by kernel_rfl) (by kernel_rfl) ⟨wi5,trivial⟩⟩
def G25:Glob:=G24.add 166 wm9
theorem G25_ok:GlobOk Try.prog G25:=G24_ok.add ⟨Try.f166,Try.func166,by kernel_rfl,by kernel_rfl⟩ wrr
def v3c:q1T→List AV:=fun x=>[.bp 0 0,.lst (.i) x.1,.i x.2.1,.i x.2.2.1]
def v5n:q1T→St:=fun x=>[.box [.own 1],.arr (.int .u8) x.2.2.2]
def vva:Nat→Option LoopSpec
 |0=>some (lpS [0,8,9,10] [none,none,none,none,some (.int .u8)] [.bp 0 0,.lst (.i),.i,.i] [.box [.own 1],.arr (.int .u8)] vlb (fun p q=>(p.2.1,p.2.2.1,p.2.2.2.1,q.2.1)) (fun k=>(onE (exZ (.exit 0) v3c v5n) k)))
 |_=>none
theorem wkc:LpAt G25 ⟨1,29,vva⟩ Try.f95 0:=
 vay rfl (fun x=>(n21n_bp0 x).p) v3c v5n (exZ (.exit 0) v3c v5n) (fun _ _=>⟨rfl,rfl⟩) (fun z=>by(intro h;cases h)) (fun _ _=>rfl) (fun x=>by kernel_rfl)
def viu:Nat→Option LoopSpec
 |0=>some ⟨[0,8,9,10],[],fun vals st k=>vao [.bp 0 0,.lst (.i),.i,.i] [.box [.own 1],.arr (.int .u8)] vals st (fun p q=>vak vm0 Fuel (.inl (p.2.1,p.2.2.1,p.2.2.2.1,q.2.1)) (Sum.elim (fun z=>k (.exit 0) [.bp 0 0,.lst (.i) z.1,.i z.2.1,.i z.2.2.1] [.box [.own 1],.arr (.int .u8) z.2.2.2]) (fun z=>k (.exit 0) [.bp 0 0,.lst (.i) z.1,.i z.2.1,.i z.2.2.1] [.box [.own 2],.gone,.arr (.int .u8) z.2.2.2])))
   (vao [.bp 0 0,.lst (.i),.i,.i] [.box [.own 2],.gone,.arr (.int .u8)] vals st (fun p q=>vak vm0 Fuel (.inr (p.2.1,p.2.2.1,p.2.2.2.1,q.2.2.1)) (Sum.elim (fun z=>k (.exit 0) [.bp 0 0,.lst (.i) z.1,.i z.2.1,.i z.2.2.1] [.box [.own 1],.arr (.int .u8) z.2.2.2]) (fun z=>k (.exit 0) [.bp 0 0,.lst (.i) z.1,.i z.2.1,.i z.2.2.1] [.box [.own 2],.gone,.arr (.int .u8) z.2.2.2])))
   (none))⟩
 |_=>none
def vz0:(q1T⊕q1T)→List AV:=(Sum.elim (fun x=>[.bp 0 0,.lst (.i) x.1,.i x.2.1,.i x.2.2.1]) (fun x=>[.bp 0 0,.lst (.i) x.1,.i x.2.1,.i x.2.2.1]))
def vyd:(q1T⊕q1T)→St:=(Sum.elim (fun x=>[.box [.own 1],.arr (.int .u8) x.2.2.2]) (fun x=>[.box [.own 2],.gone,.arr (.int .u8) x.2.2.2]))
def vs0:(q1T⊕q1T)→Out×List AV×St:=(Sum.elim (fun z=>((.exit 0),[.bp 0 0,.lst (.i) z.1,.i z.2.1,.i z.2.2.1],[.box [.own 1],.arr (.int .u8) z.2.2.2])) (fun z=>((.exit 0),[.bp 0 0,.lst (.i) z.1,.i z.2.1,.i z.2.2.1],[.box [.own 2],.gone,.arr (.int .u8) z.2.2.2])))
theorem v6a (x:(q1T⊕q1T)):exec G25 ⟨2,29,viu⟩ (vg3 Try.f95 0) (vn9 ⟨2,29,viu⟩ [0,8,9,10] []) (vgw (vf1 29) [0,8,9,10] (vz0 x)) (vyd x)=vm0 x (Sum.elim (fun y=>some ⟨.norm,vz0 y,vyd y⟩) fun z=>some ⟨(vs0 z).1,(vs0 z).2.1,(vs0 z).2.2⟩):=by
 rcases x with x|x<;>kernel_rfl
theorem whf:∀sp,(viu 0)=some sp→v0g G25 ⟨2,29,viu⟩ sp (vg3 Try.f95 0):=by
 intro sp hsp vals st k r h
 cases hsp
 dsimp only at h
 rcases vda h with⟨p,q,rfl,rfl,h⟩|h
 ·exact viz (fun x=>(n22n_bp0 x).p) vz0 vyd vs0 (fun z=>by rcases z with z|z<;>(intro h;cases h)) v6a Fuel (.inl (p.2.1,p.2.2.1,p.2.2.2.1,q.2.1)) _ k r (fun z=>by rcases z with z|z<;>rfl) h
 rcases vda h with⟨p,q,rfl,rfl,h⟩|h
 ·exact viz (fun x=>(n22n_bp0 x).p) vz0 vyd vs0 (fun z=>by rcases z with z|z<;>(intro h;cases h)) v6a Fuel (.inr (p.2.1,p.2.2.1,p.2.2.2.1,q.2.2.1)) _ k r (fun z=>by rcases z with z|z<;>rfl) h
 cases h
theorem wp4:vae Try.prog 95 v09:=by
 refine told G25_ok follows Try.func95 (c:=Try.f95.body.getD .skip) (by kernel_rfl) ?_
 intro args s k r hk
 unfold v09 at hk
 rcases vef hk with⟨p,q,rfl,rfl⟩|hk
 ·exact⟨vva,(n21n_p p.2.1).p.map _,by unfold v09;rw [wby];kernel_rfl,vab (ids:=[0]) (by kernel_rfl) (by kernel_rfl) ⟨wkc,trivial⟩⟩
 rcases vef hk with⟨p,q,rfl,rfl⟩|hk
 ·exact⟨viu,(n22n_p p.2.1 q.2.1).p.map2 _ _,by unfold v09;rw [wfb];kernel_rfl,vab (ids:=[0]) (by kernel_rfl) (by kernel_rfl) ⟨whf,trivial⟩⟩
 cases hk
def G26:Glob:=G25.add 95 v09
theorem G26_ok:GlobOk Try.prog G26:=G25_ok.add ⟨Try.f95,Try.func95,by kernel_rfl,by kernel_rfl⟩ wp4
def wbj:Nat→Option LoopSpec
 |_=>none
theorem wqi:vae Try.prog 163 wk4:=
 vaw G26_ok follows (Try.f163.body.getD .skip) Try.func163 (by kernel_rfl) fun p q=>⟨wbj,(n09n_p _).p.map _,by rw [wf6];kernel_rfl,vab (ids:=[]) (by kernel_rfl) (by kernel_rfl) trivial⟩
def G27:Glob:=G26.add 163 wk4
theorem G27_ok:GlobOk Try.prog G27:=G26_ok.add ⟨Try.f163,Try.func163,by kernel_rfl,by kernel_rfl⟩ wqi
def vip:Nat→Option LoopSpec
 |0=>some ⟨[0,8,9,10],[],fun vals st k=>vao [.bp 0 0,.lst .str,.i,.i] [.box [.own 1],.arr (.int .u8)] vals st (fun p q=>vak vln Fuel (.inl (p.2.1,p.2.2.1,p.2.2.2.1,q.2.1)) (Sum.elim (fun z=>k (.exit 0) [.bp 0 0,.lst .str z.1,.i z.2.1,.i z.2.2.1] [.box [.own 1],.arr (.int .u8) z.2.2.2]) (fun z=>k (.exit 0) [.bp 0 0,.lst .str z.1,.i z.2.1,.i z.2.2.1] [.box [.own 2],.gone,.arr (.int .u8) z.2.2.2])))
   (vao [.bp 0 0,.lst .str,.i,.i] [.box [.own 2],.gone,.arr (.int .u8)] vals st (fun p q=>vak vln Fuel (.inr (p.2.1,p.2.2.1,p.2.2.2.1,q.2.2.1)) (Sum.elim (fun z=>k (.exit 0) [.bp 0 0,.lst .str z.1,.i z.2.1,.i z.2.2.1] [.box [.own 1],.arr (.int .u8) z.2.2.2]) (fun z=>k (.exit 0) [.bp 0 0,.lst .str z.1,.i z.2.1,.i z.2.2.1] [.box [.own 2],.gone,.arr (.int .u8) z.2.2.2])))
   (none))⟩
 |_=>none
def vzy:(q0T⊕q0T)→List AV:=(Sum.elim (fun x=>[.bp 0 0,.lst .str x.1,.i x.2.1,.i x.2.2.1]) (fun x=>[.bp 0 0,.lst .str x.1,.i x.2.1,.i x.2.2.1]))
def vys:(q0T⊕q0T)→St:=(Sum.elim (fun x=>[.box [.own 1],.arr (.int .u8) x.2.2.2]) (fun x=>[.box [.own 2],.gone,.arr (.int .u8) x.2.2.2]))
def vq2:(q0T⊕q0T)→Out×List AV×St:=(Sum.elim (fun z=>((.exit 0),[.bp 0 0,.lst .str z.1,.i z.2.1,.i z.2.2.1],[.box [.own 1],.arr (.int .u8) z.2.2.2])) (fun z=>((.exit 0),[.bp 0 0,.lst .str z.1,.i z.2.1,.i z.2.2.1],[.box [.own 2],.gone,.arr (.int .u8) z.2.2.2])))
theorem v7d (x:(q0T⊕q0T)):exec G27 ⟨2,29,vip⟩ (vg3 Try.f89 0) (vn9 ⟨2,29,vip⟩ [0,8,9,10] []) (vgw (vf1 29) [0,8,9,10] (vzy x)) (vys x)=vln x (Sum.elim (fun y=>some ⟨.norm,vzy y,vys y⟩) fun z=>some ⟨(vq2 z).1,(vq2 z).2.1,(vq2 z).2.2⟩):=by
 rcases x with x|x<;>kernel_rfl
theorem whb:∀sp,(vip 0)=some sp→v0g G27 ⟨2,29,vip⟩ sp (vg3 Try.f89 0):=by
 intro sp hsp vals st k r h
 cases hsp
 dsimp only at h
 rcases vda h with⟨p,q,rfl,rfl,h⟩|h
 ·exact viz (fun x=>(n23n_bp0 x).p) vzy vys vq2 (fun z=>by rcases z with z|z<;>(intro h;cases h)) v7d Fuel (.inl (p.2.1,p.2.2.1,p.2.2.2.1,q.2.1)) _ k r (fun z=>by rcases z with z|z<;>rfl) h
 rcases vda h with⟨p,q,rfl,rfl,h⟩|h
 ·exact viz (fun x=>(n23n_bp0 x).p) vzy vys vq2 (fun z=>by rcases z with z|z<;>(intro h;cases h)) v7d Fuel (.inr (p.2.1,p.2.2.1,p.2.2.2.1,q.2.2.1)) _ k r (fun z=>by rcases z with z|z<;>rfl) h
 cases h
theorem wo9:vae Try.prog 89 wlx:=
 vaw G27_ok follows (Try.f89.body.getD .skip) Try.func89 (by kernel_rfl) fun p q=>⟨vip,(n23n_p _ _).p.map2 _ _,by rw [v67];kernel_rfl,vab (ids:=[0]) (by kernel_rfl) (by kernel_rfl) ⟨whb,trivial⟩⟩
def G28:Glob:=G27.add 89 wlx
theorem G28_ok:GlobOk Try.prog G28:=G27_ok.add ⟨Try.f89,Try.func89,by kernel_rfl,by kernel_rfl⟩ wo9
def vuj:(Int×(List Int))→List AV:=fun x=>[.bp 0 0,.int .u8 x.1]
def vu0:(Int×(List Int))→St:=fun x=>[.box [.own 1],.arr (.int .u8) x.2]
def vkj:(Int×(List Int))→Out×List AV×St:=fun z=>(.norm,[.bp 0 0,.int .u8 z.1],[.box [.own 2],.gone,.arr (.int .u8) z.2])
def vwg:Nat→Option LoopSpec
 |5000003=>some (ctS [0,4] [] [.bp 0 0,.int .u8] [.box [.own 1],.arr (.int .u8)] vdp (fun p q=>(p.2.1,q.2.1)) (fun k=>(onE vkj k)))
 |_=>none
theorem vu1:CtAt G28 ⟨2,16,vwg⟩ Try.f90 5000003:=
 vcv rfl (fun x=>(n20n_jp5000003 x).p) vuj vu0 vkj (fun _ _=>⟨rfl,rfl⟩) (fun _ _=>rfl) (fun x=>by kernel_rfl)
theorem wpk:vae Try.prog 90 wmx:=
 vaw G28_ok follows (Try.f90.body.getD .skip) Try.func90 (by kernel_rfl) fun p q=>⟨vwg,(n20n_p _ _).p.map _,by rw [wcp];kernel_rfl,vab (ids:=[5000003]) (by kernel_rfl) (by kernel_rfl) ⟨vu1,trivial⟩⟩
def G29:Glob:=G28.add 90 wmx
theorem G29_ok:GlobOk Try.prog G29:=G28_ok.add ⟨Try.f90,Try.func90,by kernel_rfl,by kernel_rfl⟩ wpk
def v42:q6T→List AV:=fun x=>[.bp 0 0,.bp 1 0,.lst tRange x.1,.i x.2.1,.i x.2.2.1]
def v32:q6T→St:=fun x=>let xh:=x.2.2.2.2.2.2.2.2;[.box [.i x.2.2.2.1,.i x.2.2.2.2.1,.i x.2.2.2.2.2.1,.i x.2.2.2.2.2.2.1,.lst tRange x.2.2.2.2.2.2.2.1,.lst tWrite xh.1,.bool xh.2.1,.str xh.2.2.1],.box [.own 2],.arr (.int .u8) xh.2.2.2]
def v44:q16T→List AV:=fun x=>[.bp 0 0,.bp 1 0,.lst tWrite x.1,.i x.2.1,.i x.2.2.1]
def v4a:q16T→St:=fun x=>let xh:=x.2.2.2.2.2.2.2.2;[.box [.i x.2.2.2.1,.i x.2.2.2.2.1,.i x.2.2.2.2.2.1,.i x.2.2.2.2.2.2.1,.lst tRange x.2.2.2.2.2.2.2.1,.lst tWrite xh.1,.bool xh.2.1,.str xh.2.2.1],.box [.own 2],.arr (.int .u8) xh.2.2.2]
def vpq:Nat→Option LoopSpec
 |0=>some (lpS [1,4,29,30,31] [] [.bp 0 0,.bp 1 0,.lst tRange,.i,.i] [.box [.i,.i,.i,.i,.lst tRange,.lst tWrite,.bool,.str],.box [.own 2],.arr (.int .u8)] vlj (fun p q=>(p.2.2.1,p.2.2.2.1,p.2.2.2.2.1,q.1.1,q.1.2.1,q.1.2.2.1,q.1.2.2.2.1,q.1.2.2.2.2.1,q.1.2.2.2.2.2.1,q.1.2.2.2.2.2.2.1,q.1.2.2.2.2.2.2.2.1,q.2.2.1)) (fun k=>(onE (exZ (.exit 0) v42 v32) k)))
 |2=>some (lpS [1,4,50,51,52] [] [.bp 0 0,.bp 1 0,.lst tWrite,.i,.i] [.box [.i,.i,.i,.i,.lst tRange,.lst tWrite,.bool,.str],.box [.own 2],.arr (.int .u8)] vja (fun p q=>(p.2.2.1,p.2.2.2.1,p.2.2.2.2.1,q.1.1,q.1.2.1,q.1.2.2.1,q.1.2.2.2.1,q.1.2.2.2.2.1,q.1.2.2.2.2.2.1,q.1.2.2.2.2.2.2.1,q.1.2.2.2.2.2.2.2.1,q.2.2.1)) (fun k=>(onE (exZ (.exit 2) v44 v4a) k)))
 |_=>none
theorem wju:LpAt G29 ⟨0,82,vpq⟩ Try.f31 0:=
 vay rfl (fun x=>(n11n_bp0 x).p) v42 v32 (exZ (.exit 0) v42 v32) (fun _ _=>⟨rfl,rfl⟩) (fun z=>by(intro h;cases h)) (fun _ _=>rfl) (fun x=>by kernel_rfl)
theorem whl:LpAt G29 ⟨0,82,vpq⟩ Try.f31 2:=
 vay rfl (fun x=>(n11n_bp2 x).p) v44 v4a (exZ (.exit 2) v44 v4a) (fun _ _=>⟨rfl,rfl⟩) (fun z=>by(intro h;cases h)) (fun _ _=>rfl) (fun x=>by kernel_rfl)
theorem wp3:vae Try.prog 31 wlw:=
 vaw G29_ok follows (Try.f31.body.getD .skip) Try.func31 (by kernel_rfl) fun p q=>⟨vpq,(n11n_p _).p.map _,by rw [wgw];kernel_rfl,vab (ids:=[0,2]) (by kernel_rfl) (by kernel_rfl) ⟨wju,⟨whl,trivial⟩⟩⟩
def G30:Glob:=G29.add 31 wlw
theorem G30_ok:GlobOk Try.prog G30:=G29_ok.add ⟨Try.f31,Try.func31,by kernel_rfl,by kernel_rfl⟩ wp3
def vd3:q37T→List AV:=fun x=>[.str x.1,.i x.2.1,.i x.2.2.1,.i x.2.2.2.1,.bool x.2.2.2.2.1,.i x.2.2.2.2.2.1,.i x.2.2.2.2.2.2]
def vd5:q37T→St:=fun x=>[]
def vq1:q37T→List AV:=fun x=>[.str x.1,.i x.2.1,.i x.2.2.1,.i x.2.2.2.1,.bool x.2.2.2.2.1,.i x.2.2.2.2.2.1,.i x.2.2.2.2.2.2]
def vsq:q37T→St:=fun x=>[]
def vox:Nat→Option LoopSpec
 |6000001=>some (ctS [0,1,4,5,6,7,8] [] [.str,.i,.i,.i,.bool,.i,.i] [] ves (fun p q=>(p.1,p.2.1,p.2.2.1,p.2.2.2.1,p.2.2.2.2.1,p.2.2.2.2.2.1,p.2.2.2.2.2.2.1)) (fun k=>(Sum.elim (onE (exZ .ret vd3 vd5) k) (onE (exZ .norm vd3 vd5) k))))
 |0=>some (lpS [0,1,4,5,6,7,8] [] [.str,.i,.i,.i,.bool,.i,.i] [] vk4 (fun p q=>(p.1,p.2.1,p.2.2.1,p.2.2.2.1,p.2.2.2.2.1,p.2.2.2.2.2.1,p.2.2.2.2.2.2.1)) (fun k=>(Sum.elim (onE (exZ (.exit 0) vq1 vsq) k) (onE (exZ .ret vq1 vsq) k))))
 |_=>none
theorem vu5:CtAt G30 ⟨0,63,vox⟩ Try.f221 6000001:=
 vcv rfl (fun x=>(n07n_jp6000001 x).p) vd3 vd5 (Sum.elim ((exZ .ret vd3 vd5)) ((exZ .norm vd3 vd5))) (fun _ _=>⟨rfl,rfl⟩) (fun k z=>by rcases z with z|z<;>rfl) (fun x=>by kernel_rfl)
theorem wi1:LpAt G30 ⟨0,63,vox⟩ Try.f221 0:=
 vay rfl (fun x=>(n07n_bp0 x).p) vq1 vsq (Sum.elim ((exZ (.exit 0) vq1 vsq)) ((exZ .ret vq1 vsq))) (fun _ _=>⟨rfl,rfl⟩) (fun z=>by rcases z with z|z<;>(intro h;cases h)) (fun k z=>by rcases z with z|z<;>rfl) (fun x=>by kernel_rfl)
theorem wsj:vae Try.prog 221 wm6:=
 vaw G30_ok follows (Try.f221.body.getD .skip) Try.func221 (by kernel_rfl) fun p q=>⟨vox,(n07n_p _ _).p.map _,by rw [wb5];kernel_rfl,vab (ids:=[6000001,0]) (by kernel_rfl) (by kernel_rfl) ⟨vu5,⟨wi1,trivial⟩⟩⟩
def G31:Glob:=G30.add 221 wm6
theorem G31_ok:GlobOk Try.prog G31:=G30_ok.add ⟨Try.f221,Try.func221,by kernel_rfl,by kernel_rfl⟩ wsj
def wai:Nat→Option LoopSpec
 |2000001=>some ⟨[0,2,4,6,8,10,12,14,16,18,20,22,24,26,28,30],[],fun _ _ _=>none⟩
 |_=>none
theorem wqo:vae Try.prog 167 wkx:=
 vaw G31_ok follows (Try.f167.body.getD .skip) Try.func167 (by kernel_rfl) fun p q=>⟨wai,(n27n_p _ _ _).p.map _,by rw [wex];kernel_rfl,vab (ids:=[]) (by kernel_rfl) (by kernel_rfl) trivial⟩
def G32:Glob:=G31.add 167 wkx
theorem G32_ok:GlobOk Try.prog G32:=G31_ok.add ⟨Try.f167,Try.func167,by kernel_rfl,by kernel_rfl⟩ wqo
def wbq:Nat→Option LoopSpec
 |_=>none
theorem wqv:vae Try.prog 222 wlz:=
 vaw G32_ok follows (Try.f222.body.getD .skip) Try.func222 (by kernel_rfl) fun p q=>⟨wbq,(n05n_p _ _).p.map _,by rw [wel];kernel_rfl,vab (ids:=[]) (by kernel_rfl) (by kernel_rfl) trivial⟩
def G33:Glob:=G32.add 222 wlz
theorem G33_ok:GlobOk Try.prog G33:=G32_ok.add ⟨Try.f222,Try.func222,by kernel_rfl,by kernel_rfl⟩ wqv
def wan:Nat→Option LoopSpec
 |2000001=>some ⟨[0,2,4,6,8,10,12,14,16,18,20,22,24,26,28,30],[],fun _ _ _=>none⟩
 |_=>none
theorem wp8:vae Try.prog 170 wku:=
 vaw G33_ok follows (Try.f170.body.getD .skip) Try.func170 (by kernel_rfl) fun p q=>⟨wan,(n28n_p _ _ _).p.map _,by rw [wfv];kernel_rfl,vab (ids:=[]) (by kernel_rfl) (by kernel_rfl) trivial⟩
def G34:Glob:=G33.add 170 wku
theorem G34_ok:GlobOk Try.prog G34:=G33_ok.add ⟨Try.f170,Try.func170,by kernel_rfl,by kernel_rfl⟩ wp8
def wbh:Nat→Option LoopSpec
 |1000000=>some ⟨[2],[],fun _ _ _=>none⟩
 |_=>none
def wa6:Nat→Option LoopSpec
 |1000000=>some ⟨[2,3],[],fun _ _ _=>none⟩
 |_=>none
theorem wqy:vae Try.prog 169 v2v:=by
 refine told G34_ok follows Try.func169 (c:=Try.f169.body.getD .skip) (by kernel_rfl) ?_
 intro args s k r hk
 unfold v2v at hk
 rcases vef hk with⟨p,q,rfl,rfl⟩|hk
 ·exact⟨wbh,(n30n_p q.1.1 q.1.2.1 q.1.2.2.1 q.1.2.2.2.1 q.1.2.2.2.2.2.2.1 q.1.2.2.2.2.2.2.2.1 q.2.2.1.1 q.2.2.1.2.1 q.2.2.1.2.2.1).p.map _,by unfold v2v;rw [wlo];kernel_rfl,vab (ids:=[]) (by kernel_rfl) (by kernel_rfl) trivial⟩
 rcases vef hk with⟨p,q,rfl,rfl⟩|hk
 ·exact⟨wa6,(n31n_p q.1.1 q.1.2.1 q.1.2.2.1 q.1.2.2.2.1 q.1.2.2.2.2.2.2.1 q.1.2.2.2.2.2.2.2.1 q.2.2.1 q.2.2.2.1.1 q.2.2.2.1.2.1 q.2.2.2.1.2.2.1).p.map _,by unfold v2v;rw [we8];kernel_rfl,vab (ids:=[]) (by kernel_rfl) (by kernel_rfl) trivial⟩
 cases hk
def G35:Glob:=G34.add 169 v2v
theorem G35_ok:GlobOk Try.prog G35:=G34_ok.add ⟨Try.f169,Try.func169,by kernel_rfl,by kernel_rfl⟩ wqy
def vhw:q18T→List AV:=fun x=>[.bp 0 0,.bool x.1]
def vhx:q18T→St:=fun x=>[.box [.str x.2.1,.i x.2.2.1,.bool x.2.2.2]]
def vvu:Nat→Option LoopSpec
 |5000004=>some (ctS [0,2] [] [.bp 0 0,.bool] [.box [.str,.i,.bool]] ver (fun p q=>(p.2.1,q.1.1,q.1.2.1,q.1.2.2.1)) (fun k=>(onE (exZ .ret vhw vhx) k)))
 |2000001=>some ⟨[0,2,4,6,8,10,12,14,16,18,20,22,24,26,28,31,32,34,36,38,40,42,44,46,48,50,52,54,56,58],[],fun _ _ _=>none⟩
 |2000005=>some ⟨[0,2,4,6,8,10,12,14,16,18,20,22],[],fun _ _ _=>none⟩
 |_=>none
theorem vu7:CtAt G35 ⟨1,54,vvu⟩ Try.f172 5000004:=
 vcv rfl (fun x=>(n26n_jp5000004 x).p) vhw vhx (exZ .ret vhw vhx) (fun _ _=>⟨rfl,rfl⟩) (fun _ _=>rfl) (fun x=>by kernel_rfl)
theorem wo1:vae Try.prog 172 wlg:=
 vaw G35_ok follows (Try.f172.body.getD .skip) Try.func172 (by kernel_rfl) fun p q=>⟨vvu,(n26n_p _ _ _).p.map _,by rw [wc7];kernel_rfl,vab (ids:=[5000004]) (by kernel_rfl) (by kernel_rfl) ⟨vu7,trivial⟩⟩
def G36:Glob:=G35.add 172 wlg
theorem G36_ok:GlobOk Try.prog G36:=G35_ok.add ⟨Try.f172,Try.func172,by kernel_rfl,by kernel_rfl⟩ wo1
def wbo:Nat→Option LoopSpec
 |1000000=>some ⟨[2],[],fun _ _ _=>none⟩
 |_=>none
def wa5:Nat→Option LoopSpec
 |1000000=>some ⟨[2],[],fun _ _ _=>none⟩
 |_=>none
theorem wr4:vae Try.prog 171 v2m:=by
 refine told G36_ok follows Try.func171 (c:=Try.f171.body.getD .skip) (by kernel_rfl) ?_
 intro args s k r hk
 unfold v2m at hk
 rcases vef hk with⟨p,q,rfl,rfl⟩|hk
 ·exact⟨wbo,(n32n_p q.2.1.1 q.2.1.2.1 q.2.1.2.2.1 q.2.1.2.2.2.1 q.2.1.2.2.2.2.2.2.1 q.2.1.2.2.2.2.2.2.2.1 q.2.2.1.1 q.2.2.1.2.1 q.2.2.1.2.2.1 q.2.2.2.1).p.map _,by unfold v2m;rw [wmk];kernel_rfl,vab (ids:=[]) (by kernel_rfl) (by kernel_rfl) trivial⟩
 rcases vef hk with⟨p,q,rfl,rfl⟩|hk
 ·exact⟨wa5,(n33n_p q.2.1.1 q.2.1.2.1 q.2.1.2.2.1 q.2.1.2.2.2.1 q.2.1.2.2.2.2.2.2.1 q.2.1.2.2.2.2.2.2.2.1 q.2.2.1.1 q.2.2.1.2.1 q.2.2.1.2.2.1 q.2.2.2.1 q.2.2.2.2.1).p.map _,by unfold v2m;rw [wf3];kernel_rfl,vab (ids:=[]) (by kernel_rfl) (by kernel_rfl) trivial⟩
 cases hk
def G37:Glob:=G36.add 171 v2m
theorem G37_ok:GlobOk Try.prog G37:=G36_ok.add ⟨Try.f171,Try.func171,by kernel_rfl,by kernel_rfl⟩ wr4
def vhh:q47T→List AV:=fun x=>[.bp 0 0,.fn 169 [.bp 1 0,.bp 2 0],.i x.1,.i x.2.1]
def vih:q47T→St:=fun x=>let xh:=x.2.2.2.2.2.2.2.2;[.box [.str x.2.2.1,.i x.2.2.2.1,.bool x.2.2.2.2.1],.box [.i x.2.2.2.2.2.1,.i x.2.2.2.2.2.2.1,.i x.2.2.2.2.2.2.2.1,.i xh.1,.own 3,.nilS,.bool xh.2.1,.str xh.2.2.1],.box [.bp 0 0],.arr tRange xh.2.2.2]
def v5u:q47T→List AV:=fun x=>[.bp 0 0,.fn 169 [.bp 1 0,.bp 2 0],.i x.1,.i x.2.1]
def v35:q47T→St:=fun x=>let xh:=x.2.2.2.2.2.2.2.2;[.box [.str x.2.2.1,.i x.2.2.2.1,.bool x.2.2.2.2.1],.box [.i x.2.2.2.2.2.1,.i x.2.2.2.2.2.2.1,.i x.2.2.2.2.2.2.2.1,.i xh.1,.own 3,.nilS,.bool xh.2.1,.str xh.2.2.1],.box [.bp 0 0],.arr tRange xh.2.2.2]
def vo4:Nat→Option LoopSpec
 |6000001=>some (ctS [0,1,4,5] [none,none,none,none,none,none,none,none,none,none,none,some tRange] [.bp 0 0,.fn 169 [.bp 1 0,.bp 2 0],.i,.i] [.box [.str,.i,.bool],.box [.i,.i,.i,.i,.own 3,.nilS,.bool,.str],.box [.bp 0 0],.arr tRange] vev (fun p q=>(p.2.2.1,p.2.2.2.1,q.1.1,q.1.2.1,q.1.2.2.1,q.2.1.1,q.2.1.2.1,q.2.1.2.2.1,q.2.1.2.2.2.1,q.2.1.2.2.2.2.2.2.1,q.2.1.2.2.2.2.2.2.2.1,q.2.2.2.1)) (fun k=>(onE (exZ .norm vhh vih) k)))
 |0=>some (lpS [0,1,4,5] [none,none,none,none,none,none,none,none,none,none,none,some tRange] [.bp 0 0,.fn 169 [.bp 1 0,.bp 2 0],.i,.i] [.box [.str,.i,.bool],.box [.i,.i,.i,.i,.own 3,.nilS,.bool,.str],.box [.bp 0 0],.arr tRange] vnf (fun p q=>(p.2.2.1,p.2.2.2.1,q.1.1,q.1.2.1,q.1.2.2.1,q.2.1.1,q.2.1.2.1,q.2.1.2.2.1,q.2.1.2.2.2.1,q.2.1.2.2.2.2.2.2.1,q.2.1.2.2.2.2.2.2.2.1,q.2.2.2.1)) (fun k=>(onE (exZ (.exit 0) v5u v35) k)))
 |3000000=>some ⟨[],[none,none,none,none,none,none,none,some tRange],fun _ _ _=>none⟩
 |_=>none
theorem vu8:CtAt G37 ⟨3,22,vo4⟩ Try.f168 6000001:=
 vcv rfl (fun x=>(n24n_jp6000001 x).p) vhh vih (exZ .norm vhh vih) (fun _ _=>⟨rfl,rfl⟩) (fun _ _=>rfl) (fun x=>by kernel_rfl)
theorem wij:LpAt G37 ⟨3,22,vo4⟩ Try.f168 0:=
 vay rfl (fun x=>(n24n_bp0 x).p) v5u v35 (exZ (.exit 0) v5u v35) (fun _ _=>⟨rfl,rfl⟩) (fun z=>by(intro h;cases h)) (fun _ _=>rfl) (fun x=>by kernel_rfl)
def vhk:q46T→List AV:=fun x=>[.bp 0 0,.fn 171 [.bp 1 0,.bp 2 0],.i x.1,.i x.2.1]
def vic:q46T→St:=fun x=>let xh:=x.2.2.2.2.2.2.2.2;[.box [.str x.2.2.1,.i x.2.2.2.1,.bool x.2.2.2.2.1],.box [.bp 0 0],.box [.i x.2.2.2.2.2.1,.i x.2.2.2.2.2.2.1,.i x.2.2.2.2.2.2.2.1,.i xh.1,.own 3,.own 4,.bool xh.2.1,.str xh.2.2.1],.arr tRange xh.2.2.2.1,.arr tWrite xh.2.2.2.2]
def v30:q46T→List AV:=fun x=>[.bp 0 0,.fn 171 [.bp 1 0,.bp 2 0],.i x.1,.i x.2.1]
def v5s:q46T→St:=fun x=>let xh:=x.2.2.2.2.2.2.2.2;[.box [.str x.2.2.1,.i x.2.2.2.1,.bool x.2.2.2.2.1],.box [.bp 0 0],.box [.i x.2.2.2.2.2.1,.i x.2.2.2.2.2.2.1,.i x.2.2.2.2.2.2.2.1,.i xh.1,.own 3,.own 4,.bool xh.2.1,.str xh.2.2.1],.arr tRange xh.2.2.2.1,.arr tWrite xh.2.2.2.2]
def vo6:Nat→Option LoopSpec
 |6000001=>some (ctS [0,1,4,5] [none,none,none,none,none,none,none,none,none,none,none,none,none,some tWrite] [.bp 0 0,.fn 171 [.bp 1 0,.bp 2 0],.i,.i] [.box [.str,.i,.bool],.box [.bp 0 0],.box [.i,.i,.i,.i,.own 3,.own 4,.bool,.str],.arr tRange,.arr tWrite] veq (fun p q=>(p.2.2.1,p.2.2.2.1,q.1.1,q.1.2.1,q.1.2.2.1,q.2.2.1.1,q.2.2.1.2.1,q.2.2.1.2.2.1,q.2.2.1.2.2.2.1,q.2.2.1.2.2.2.2.2.2.1,q.2.2.1.2.2.2.2.2.2.2.1,q.2.2.2.1,q.2.2.2.2.1)) (fun k=>(onE (exZ .norm vhk vic) k)))
 |0=>some (lpS [0,1,4,5] [none,none,none,none,none,none,none,none,none,none,none,none,none,some tWrite] [.bp 0 0,.fn 171 [.bp 1 0,.bp 2 0],.i,.i] [.box [.str,.i,.bool],.box [.bp 0 0],.box [.i,.i,.i,.i,.own 3,.own 4,.bool,.str],.arr tRange,.arr tWrite] vns (fun p q=>(p.2.2.1,p.2.2.2.1,q.1.1,q.1.2.1,q.1.2.2.1,q.2.2.1.1,q.2.2.1.2.1,q.2.2.1.2.2.1,q.2.2.1.2.2.2.1,q.2.2.1.2.2.2.2.2.2.1,q.2.2.1.2.2.2.2.2.2.2.1,q.2.2.2.1,q.2.2.2.2.1)) (fun k=>(onE (exZ (.exit 0) v30 v5s) k)))
 |3000000=>some ⟨[],[none,none,none,none,none,none,none,none,none,some tWrite],fun _ _ _=>none⟩
 |_=>none
theorem vuy:CtAt G37 ⟨4,22,vo6⟩ Try.f168 6000001:=
 vcv rfl (fun x=>(n25n_jp6000001 x).p) vhk vic (exZ .norm vhk vic) (fun _ _=>⟨rfl,rfl⟩) (fun _ _=>rfl) (fun x=>by kernel_rfl)
theorem wjn:LpAt G37 ⟨4,22,vo6⟩ Try.f168 0:=
 vay rfl (fun x=>(n25n_bp0 x).p) v30 v5s (exZ (.exit 0) v30 v5s) (fun _ _=>⟨rfl,rfl⟩) (fun z=>by(intro h;cases h)) (fun _ _=>rfl) (fun x=>by kernel_rfl)
theorem vor:vae Try.prog 168 vch:=by
 refine told G37_ok follows Try.func168 (c:=Try.f168.body.getD .skip) (by kernel_rfl) ?_
 intro args s k r hk
 unfold vch at hk
 rcases vef hk with⟨p,q,rfl,rfl⟩|hk
 ·exact⟨vo4,(n24n_p q.1.1 q.1.2.1 q.1.2.2.1 q.2.1.1 q.2.1.2.1 q.2.1.2.2.1 q.2.1.2.2.2.1 q.2.1.2.2.2.2.2.2.1 q.2.1.2.2.2.2.2.2.2.1).p.map _,by unfold vch;rw [wcx];kernel_rfl,vab (ids:=[6000001,0]) (by kernel_rfl) (by kernel_rfl) ⟨vu8,⟨wij,trivial⟩⟩⟩
 rcases vef hk with⟨p,q,rfl,rfl⟩|hk
 ·exact⟨vo6,(n25n_p q.1.1 q.1.2.1 q.1.2.2.1 q.2.2.1.1 q.2.2.1.2.1 q.2.2.1.2.2.1 q.2.2.1.2.2.2.1 q.2.2.1.2.2.2.2.2.2.1 q.2.2.1.2.2.2.2.2.2.2.1 q.2.2.2.1).p.map _,by unfold vch;rw [wgt];kernel_rfl,vab (ids:=[6000001,0]) (by kernel_rfl) (by kernel_rfl) ⟨vuy,⟨wjn,trivial⟩⟩⟩
 cases hk
def G38:Glob:=G37.add 168 vch
theorem G38_ok:GlobOk Try.prog G38:=G37_ok.add ⟨Try.f168,Try.func168,by kernel_rfl,by kernel_rfl⟩ vor
def wbi:Nat→Option LoopSpec
 |2000006=>some ⟨[0,2,4,6,8,10,12,15,16,18,20,22,24],[],fun _ _ _=>none⟩
 |1000001=>some ⟨[0],[],fun _ _ _=>none⟩
 |_=>none
theorem wpl:vae Try.prog 96 wlb:=
 vaw G38_ok follows (Try.f96.body.getD .skip) Try.func96 (by kernel_rfl) fun p q=>⟨wbi,(n29n_p _ _ _).p.map _,by rw [wdg];kernel_rfl,vab (ids:=[]) (by kernel_rfl) (by kernel_rfl) trivial⟩
def G39:Glob:=G38.add 96 wlb
theorem G39_ok:GlobOk Try.prog G39:=G38_ok.add ⟨Try.f96,Try.func96,by kernel_rfl,by kernel_rfl⟩ wpl
def wbe:Nat→Option LoopSpec
 |1000005=>some ⟨[0],[],fun _ _ _=>none⟩
 |3000000=>some ⟨[],[none,none,none,none,some tRange,some tWrite],fun _ _ _=>none⟩
 |_=>none
theorem wo6:vae Try.prog 32 wkw:=
 vaw G39_ok follows (Try.f32.body.getD .skip) Try.func32 (by kernel_rfl) fun p q=>⟨wbe,(n06n_p _ _).p.map _,by rw [wfk];kernel_rfl,vab (ids:=[]) (by kernel_rfl) (by kernel_rfl) trivial⟩
def G40:Glob:=G39.add 32 wkw
theorem G40_ok:GlobOk Try.prog G40:=G39_ok.add ⟨Try.f32,Try.func32,by kernel_rfl,by kernel_rfl⟩ wo6
def wbl:Nat→Option LoopSpec
 |_=>none
theorem wsp:vae Try.prog 122 wkr:=
 vaw G40_ok.shallow follows (Try.f122.body.getD .skip) Try.func122 (by kernel_rfl) fun p q=>⟨wbl,(n66n_p _ _ _).p.map _,by rw [wdz];kernel_rfl,vab (ids:=[]) (by kernel_rfl) (by kernel_rfl) trivial⟩
def G41:Glob:=G40.add 122 wkr
theorem G41_ok:GlobOk Try.prog G41:=G40_ok.add ⟨Try.f122,Try.func122,by kernel_rfl,by kernel_rfl⟩ wsp
def vrg:(ByteArray×Bool×Int)→List AV:=fun x=>[.str x.1,.bool x.2.1,.i x.2.2]
def vrs:(ByteArray×Bool×Int)→St:=fun x=>[]
def vwp:Nat→Option LoopSpec
 |0=>some (lpS [0,2,3] [] [.str,.bool,.i] [] vkp (fun p q=>(p.1,p.2.1,p.2.2.1)) (fun k=>(Sum.elim (onE (exZ .ret vrg vrs) k) (onE (exZ (.exit 0) vrg vrs) k))))
 |_=>none
theorem wh0:LpAt G41.shallow ⟨0,23,vwp⟩ Try.f123 0:=
 vay rfl (fun x=>(n49n_bp0 x).p) vrg vrs (Sum.elim ((exZ .ret vrg vrs)) ((exZ (.exit 0) vrg vrs))) (fun _ _=>⟨rfl,rfl⟩) (fun z=>by rcases z with z|z<;>(intro h;cases h)) (fun k z=>by rcases z with z|z<;>rfl) (fun x=>by kernel_rfl)
theorem wqs:vae Try.prog 123 wm3:=
 vaw G41_ok.shallow follows (Try.f123.body.getD .skip) Try.func123 (by kernel_rfl) fun p q=>⟨vwp,(n49n_p _).p.map _,by rw [wbz];kernel_rfl,vab (ids:=[0]) (by kernel_rfl) (by kernel_rfl) ⟨wh0,trivial⟩⟩
def G42:Glob:=G41.add 123 wm3
theorem G42_ok:GlobOk Try.prog G42:=G41_ok.add ⟨Try.f123,Try.func123,by kernel_rfl,by kernel_rfl⟩ wqs
def v9v:Nat→Option LoopSpec
 |_=>none
theorem wo4:vae Try.prog 114 wnc:=
 vaw G42_ok.shallow follows (Try.f114.body.getD .skip) Try.func114 (by kernel_rfl) fun p q=>⟨v9v,(n62n_p _).p.map _,by rw [weq];kernel_rfl,vab (ids:=[]) (by kernel_rfl) (by kernel_rfl) trivial⟩
def G43:Glob:=G42.add 114 wnc
theorem G43_ok:GlobOk Try.prog G43:=G42_ok.add ⟨Try.f114,Try.func114,by kernel_rfl,by kernel_rfl⟩ wo4
def vtl:((List vaa)×Bool×Int)→List AV:=fun x=>[.lst tWrite x.1,.bool x.2.1,.i x.2.2]
def vsl:((List vaa)×Bool×Int)→St:=fun x=>[]
def vxd:Nat→Option LoopSpec
 |0=>some (lpS [0,2,3] [] [.lst tWrite,.bool,.i] [] vkh (fun p q=>(p.1,p.2.1,p.2.2.1)) (fun k=>(Sum.elim (onE (exZ .ret vtl vsl) k) (onE (exZ (.exit 0) vtl vsl) k))))
 |2000004=>some ⟨[0,2,4,6,9,10,12,14,16,18,20,22,24,26,28,30,32,34,36,38,40,42,44,46],[],fun _ _ _=>none⟩
 |_=>none
theorem wka:LpAt G43.shallow ⟨0,37,vxd⟩ Try.f116 0:=
 vay rfl (fun x=>(n63n_bp0 x).p) vtl vsl (Sum.elim ((exZ .ret vtl vsl)) ((exZ (.exit 0) vtl vsl))) (fun _ _=>⟨rfl,rfl⟩) (fun z=>by rcases z with z|z<;>(intro h;cases h)) (fun k z=>by rcases z with z|z<;>rfl) (fun x=>by kernel_rfl)
theorem wpp:vae Try.prog 116 wmz:=
 vaw G43_ok.shallow follows (Try.f116.body.getD .skip) Try.func116 (by kernel_rfl) fun p q=>⟨vxd,(n63n_p _).p.map _,by rw [wcn];kernel_rfl,vab (ids:=[0]) (by kernel_rfl) (by kernel_rfl) ⟨wka,trivial⟩⟩
def G44:Glob:=G43.add 116 wmz
theorem G44_ok:GlobOk Try.prog G44:=G43_ok.add ⟨Try.f116,Try.func116,by kernel_rfl,by kernel_rfl⟩ wpp
def v9q:Nat→Option LoopSpec
 |_=>none
theorem wpm:vae Try.prog 109 wll:=
 vaw G44_ok.shallow follows (Try.f109.body.getD .skip) Try.func109 (by kernel_rfl) fun p q=>⟨v9q,(n53n_p _).p.map _,by rw [wb2];kernel_rfl,vab (ids:=[]) (by kernel_rfl) (by kernel_rfl) trivial⟩
def G45:Glob:=G44.add 109 wll
theorem G45_ok:GlobOk Try.prog G45:=G44_ok.add ⟨Try.f109,Try.func109,by kernel_rfl,by kernel_rfl⟩ wpm
def vhm:q24T→List AV:=fun x=>[.bp 0 0,.bool x.1]
def vie:q24T→St:=fun x=>[.box [.i x.2.1,.i x.2.2.1,.i x.2.2.2.1,.i x.2.2.2.2.1,.lst tRange x.2.2.2.2.2.1,.lst tWrite x.2.2.2.2.2.2.1,.bool x.2.2.2.2.2.2.2.1,.str x.2.2.2.2.2.2.2.2]]
def vhn:q24T→List AV:=fun x=>[.bp 0 0,.bool x.1]
def vhc:q24T→St:=fun x=>[.box [.i x.2.1,.i x.2.2.1,.i x.2.2.2.1,.i x.2.2.2.2.1,.lst tRange x.2.2.2.2.2.1,.lst tWrite x.2.2.2.2.2.2.1,.bool x.2.2.2.2.2.2.2.1,.str x.2.2.2.2.2.2.2.2]]
def vrx:q29T→List AV:=fun x=>[.bp 0 0,.bool x.1,.i x.2.1]
def vs5:q29T→St:=fun x=>let xh:=x.2.2.2.2.2.2.2.2;[.box [.i x.2.2.1,.i x.2.2.2.1,.i x.2.2.2.2.1,.i x.2.2.2.2.2.1,.lst tRange x.2.2.2.2.2.2.1,.lst tWrite x.2.2.2.2.2.2.2.1,.bool xh.1,.str xh.2]]
def vig:q24T→List AV:=fun x=>[.bp 0 0,.bool x.1]
def vhy:q24T→St:=fun x=>[.box [.i x.2.1,.i x.2.2.1,.i x.2.2.2.1,.i x.2.2.2.2.1,.lst tRange x.2.2.2.2.2.1,.lst tWrite x.2.2.2.2.2.2.1,.bool x.2.2.2.2.2.2.2.1,.str x.2.2.2.2.2.2.2.2]]
def vi2:Nat→Option LoopSpec
 |5000012=>some (ctS [1,2] [] [.bp 0 0,.bool] [.box [.i,.i,.i,.i,.lst tRange,.lst tWrite,.bool,.str]] vb2 (fun p q=>(p.2.1,q.1.1,q.1.2.1,q.1.2.2.1,q.1.2.2.2.1,q.1.2.2.2.2.1,q.1.2.2.2.2.2.1,q.1.2.2.2.2.2.2.1,q.1.2.2.2.2.2.2.2.1)) (fun k=>(onE (exZ .ret vhm vie) k)))
 |5000010=>some (ctS [1,2] [] [.bp 0 0,.bool] [.box [.i,.i,.i,.i,.lst tRange,.lst tWrite,.bool,.str]] vb4 (fun p q=>(p.2.1,q.1.1,q.1.2.1,q.1.2.2.1,q.1.2.2.2.1,q.1.2.2.2.2.1,q.1.2.2.2.2.2.1,q.1.2.2.2.2.2.2.1,q.1.2.2.2.2.2.2.2.1)) (fun k=>(onE (exZ .ret vhn vhc) k)))
 |0=>some (lpS [1,2,3] [] [.bp 0 0,.bool,.i] [.box [.i,.i,.i,.i,.lst tRange,.lst tWrite,.bool,.str]] vlm (fun p q=>(p.2.1,p.2.2.1,q.1.1,q.1.2.1,q.1.2.2.1,q.1.2.2.2.1,q.1.2.2.2.2.1,q.1.2.2.2.2.2.1,q.1.2.2.2.2.2.2.1,q.1.2.2.2.2.2.2.2.1)) (fun k=>(Sum.elim (onE (exZ .ret vrx vs5) k) (onE (exZ (.exit 0) vrx vs5) k))))
 |5000003=>some (ctS [1,2] [] [.bp 0 0,.bool] [.box [.i,.i,.i,.i,.lst tRange,.lst tWrite,.bool,.str]] vdm (fun p q=>(p.2.1,q.1.1,q.1.2.1,q.1.2.2.1,q.1.2.2.2.1,q.1.2.2.2.2.1,q.1.2.2.2.2.2.1,q.1.2.2.2.2.2.2.1,q.1.2.2.2.2.2.2.2.1)) (fun k=>(onE (exZ .ret vig vhy) k)))
 |_=>none
theorem vuc:CtAt G45.shallow ⟨0,95,vi2⟩ Try.f44 5000012:=
 vcv rfl (fun x=>(n59n_jp5000012 x).p) vhm vie (exZ .ret vhm vie) (fun _ _=>⟨rfl,rfl⟩) (fun _ _=>rfl) (fun x=>by kernel_rfl)
theorem vt4:CtAt G45.shallow ⟨0,95,vi2⟩ Try.f44 5000010:=
 vcv rfl (fun x=>(n59n_jp5000010 x).p) vhn vhc (exZ .ret vhn vhc) (fun _ _=>⟨rfl,rfl⟩) (fun _ _=>rfl) (fun x=>by kernel_rfl)
theorem wj5:LpAt G45.shallow ⟨0,95,vi2⟩ Try.f44 0:=
 vay rfl (fun x=>(n59n_bp0 x).p) vrx vs5 (Sum.elim ((exZ .ret vrx vs5)) ((exZ (.exit 0) vrx vs5))) (fun _ _=>⟨rfl,rfl⟩) (fun z=>by rcases z with z|z<;>(intro h;cases h)) (fun k z=>by rcases z with z|z<;>rfl) (fun x=>by kernel_rfl)
theorem vtz:CtAt G45.shallow ⟨0,95,vi2⟩ Try.f44 5000003:=
 vcv rfl (fun x=>(n59n_jp5000003 x).p) vig vhy (exZ .ret vig vhy) (fun _ _=>⟨rfl,rfl⟩) (fun _ _=>rfl) (fun x=>by kernel_rfl)
theorem wrv:vae Try.prog 44 wnd:=
 vaw G45_ok.shallow follows (Try.f44.body.getD .skip) Try.func44 (by kernel_rfl) fun p q=>⟨vi2,(n59n_p _).p.map _,by rw [wcv];kernel_rfl,vab (ids:=[5000012,5000010,0,5000003]) (by kernel_rfl) (by kernel_rfl) ⟨vuc,⟨vt4,⟨wj5,⟨vtz,trivial⟩⟩⟩⟩⟩
def G46:Glob:=G45.add 44 wnd
theorem G46_ok:GlobOk Try.prog G46:=G45_ok.add ⟨Try.f44,Try.func44,by kernel_rfl,by kernel_rfl⟩ wrv
def v28:(Int×(List Int))→List AV:=fun x=>[.i x.1,.own 0]
def v4j:(Int×(List Int))→St:=fun x=>[.arr (.int .u8) x.2]
def vvz:Nat→Option LoopSpec
 |0=>some (lpS [0,3] [] [.i,.own 0] [.arr (.int .u8)] vhj (fun p q=>(p.1,q.1)) (fun k=>(onE (exZ (.exit 0) v28 v4j) k)))
 |_=>none
theorem wg9:LpAt G46.shallow ⟨0,22,vvz⟩ Try.f156 0:=
 vay rfl (fun x=>(n72n_bp0 x).p) v28 v4j (exZ (.exit 0) v28 v4j) (fun _ _=>⟨rfl,rfl⟩) (fun z=>by(intro h;cases h)) (fun _ _=>rfl) (fun x=>by kernel_rfl)
theorem wrb:vae Try.prog 156 wko:=
 vaw G46_ok.shallow follows (Try.f156.body.getD .skip) Try.func156 (by kernel_rfl) fun p q=>⟨vvz,(n72n_p _).p.map _,by rw [v9o];kernel_rfl,vab (ids:=[0]) (by kernel_rfl) (by kernel_rfl) ⟨wg9,trivial⟩⟩
def G47:Glob:=G46.add 156 wko
theorem G47_ok:GlobOk Try.prog G47:=G46_ok.add ⟨Try.f156,Try.func156,by kernel_rfl,by kernel_rfl⟩ wrb
def wag:Nat→Option LoopSpec
 |_=>none
theorem wqk:vae Try.prog 84 wl5:=
 vaw G47_ok.shallow follows (Try.f84.body.getD .skip) Try.func84 (by kernel_rfl) fun p q=>⟨wag,(n88n_p _).p.map _,by rw [wcw];kernel_rfl,vab (ids:=[]) (by kernel_rfl) (by kernel_rfl) trivial⟩
def G48:Glob:=G47.add 84 wl5
theorem G48_ok:GlobOk Try.prog G48:=G47_ok.add ⟨Try.f84,Try.func84,by kernel_rfl,by kernel_rfl⟩ wqk
def wad:Nat→Option LoopSpec
 |_=>none
theorem wsf:vae Try.prog 85 wmq:=
 vaw G48_ok.shallow follows (Try.f85.body.getD .skip) Try.func85 (by kernel_rfl) fun p q=>⟨wad,(n84n_p _).p.map _,by rw [wgi];kernel_rfl,vab (ids:=[]) (by kernel_rfl) (by kernel_rfl) trivial⟩
def G49:Glob:=G48.add 85 wmq
theorem G49_ok:GlobOk Try.prog G49:=G48_ok.add ⟨Try.f85,Try.func85,by kernel_rfl,by kernel_rfl⟩ wsf
def v5c:q38T→List AV:=fun x=>[.bp 0 0,.str x.1,.i x.2.1]
def v33:q38T→St:=fun x=>let xh:=x.2.2.2.2.2.2.2.2;[.box [.i x.2.2.1,.i x.2.2.2.1,.i x.2.2.2.2.1,.i x.2.2.2.2.2.1,.lst tRange x.2.2.2.2.2.2.1,.lst tWrite x.2.2.2.2.2.2.2.1,.bool xh.1,.str xh.2]]
def v40:q38T→List AV:=fun x=>[.bp 0 0,.str x.1,.i x.2.1]
def v3b:q38T→St:=fun x=>let xh:=x.2.2.2.2.2.2.2.2;[.box [.i x.2.2.1,.i x.2.2.2.1,.i x.2.2.2.2.1,.i x.2.2.2.2.2.1,.lst tRange x.2.2.2.2.2.2.1,.lst tWrite x.2.2.2.2.2.2.2.1,.bool xh.1,.str xh.2]]
def vo5:Nat→Option LoopSpec
 |0=>some (lpS [1,4,5] [] [.bp 0 0,.str,.i] [.box [.i,.i,.i,.i,.lst tRange,.lst tWrite,.bool,.str]] vlo (fun p q=>(p.2.1,p.2.2.1,q.1.1,q.1.2.1,q.1.2.2.1,q.1.2.2.2.1,q.1.2.2.2.2.1,q.1.2.2.2.2.2.1,q.1.2.2.2.2.2.2.1,q.1.2.2.2.2.2.2.2.1)) (fun k=>(onE (exZ (.exit 0) v5c v33) k)))
 |2=>some (lpS [1,4,6] [] [.bp 0 0,.str,.i] [.box [.i,.i,.i,.i,.lst tRange,.lst tWrite,.bool,.str]] vkl (fun p q=>(p.2.1,p.2.2.1,q.1.1,q.1.2.1,q.1.2.2.1,q.1.2.2.2.1,q.1.2.2.2.2.1,q.1.2.2.2.2.2.1,q.1.2.2.2.2.2.2.1,q.1.2.2.2.2.2.2.2.1)) (fun k=>(onE (exZ (.exit 2) v40 v3b) k)))
 |2000003=>some ⟨[0,2,6,8,14,16,22,24,30,32,34,5,11,12,19,20,27,28,37,38,40],[],fun _ _ _=>none⟩
 |2000007=>some ⟨[0,2,4,6,8,10,12,18,20,22,24,26,28,15,16,31,32,34],[],fun _ _ _=>none⟩
 |2000012=>some ⟨[0,2,4,6,8,10,12,18,20,22,24,26,28,34,36,38,40,42,44,15,16,31,32,47,48,50],[],fun _ _ _=>none⟩
 |2000013=>some ⟨[0,2,4,10,12,7,8,15,16,18,20],[],fun _ _ _=>none⟩
 |_=>none
theorem wj7:LpAt G49.shallow ⟨0,101,vo5⟩ Try.f87 0:=
 vay rfl (fun x=>(n60n_bp0 x).p) v5c v33 (exZ (.exit 0) v5c v33) (fun _ _=>⟨rfl,rfl⟩) (fun z=>by(intro h;cases h)) (fun _ _=>rfl) (fun x=>by kernel_rfl)
theorem wh2:LpAt G49.shallow ⟨0,101,vo5⟩ Try.f87 2:=
 vay rfl (fun x=>(n60n_bp2 x).p) v40 v3b (exZ (.exit 2) v40 v3b) (fun _ _=>⟨rfl,rfl⟩) (fun z=>by(intro h;cases h)) (fun _ _=>rfl) (fun x=>by kernel_rfl)
theorem wpo:vae Try.prog 87 wlq:=
 vaw G49_ok.shallow follows (Try.f87.body.getD .skip) Try.func87 (by kernel_rfl) fun p q=>⟨vo5,(n60n_p _).p.map _,by rw [wgo];kernel_rfl,vab (ids:=[0,2]) (by kernel_rfl) (by kernel_rfl) ⟨wj7,⟨wh2,trivial⟩⟩⟩
def G50:Glob:=G49.add 87 wlq
theorem G50_ok:GlobOk Try.prog G50:=G49_ok.add ⟨Try.f87,Try.func87,by kernel_rfl,by kernel_rfl⟩ wpo
def v5g:q45T→List AV:=fun x=>[.bp 0 0,.i x.1,.own 1,.i x.2.1]
def v4v:q45T→St:=fun x=>[.box [.lst (.int .u8) x.2.2.1,.i x.2.2.2.1,.i x.2.2.2.2.1],.arr (.int .u8) x.2.2.2.2.2]
def vh8:q43T→List AV:=fun x=>[.bp 0 0,.i x.1,.str x.2.1]
def vik:q43T→St:=fun x=>[.box [.lst (.int .u8) x.2.2.1,.i x.2.2.2.1,.i x.2.2.2.2]]
def vpc:Nat→Option LoopSpec
 |0=>some (lpS [0,1,5,6] [] [.bp 0 0,.i,.own 1,.i] [.box [.lst (.int .u8),.i,.i],.arr (.int .u8)] vo8 (fun p q=>(p.2.1,p.2.2.2.1,q.1.1,q.1.2.1,q.1.2.2.1,q.2.1)) (fun k=>(onE (exZ (.exit 0) v5g v4v) k)))
 |5000003=>some (ctS [0,1,4] [] [.bp 0 0,.i,.str] [.box [.lst (.int .u8),.i,.i]] vdj (fun p q=>(p.2.1,p.2.2.1,q.1.1,q.1.2.1,q.1.2.2.1)) (fun k=>(onE (exZ .ret vh8 vik) k)))
 |_=>none
theorem wg5:LpAt G50.shallow ⟨1,23,vpc⟩ Try.f174 0:=
 vay rfl (fun x=>(n71n_bp0 x).p) v5g v4v (exZ (.exit 0) v5g v4v) (fun _ _=>⟨rfl,rfl⟩) (fun z=>by(intro h;cases h)) (fun _ _=>rfl) (fun x=>by kernel_rfl)
theorem vub:CtAt G50.shallow ⟨1,23,vpc⟩ Try.f174 5000003:=
 vcv rfl (fun x=>(n71n_jp5000003 x).p) vh8 vik (exZ .ret vh8 vik) (fun _ _=>⟨rfl,rfl⟩) (fun _ _=>rfl) (fun x=>by kernel_rfl)
theorem wsb:vae Try.prog 174 wna:=
 vaw G50_ok.shallow follows (Try.f174.body.getD .skip) Try.func174 (by kernel_rfl) fun p q=>⟨vpc,(n71n_p _ _ _ _).p.map _,by rw [wgm];kernel_rfl,vab (ids:=[0,5000003]) (by kernel_rfl) (by kernel_rfl) ⟨wg5,⟨vub,trivial⟩⟩⟩
def G51:Glob:=G50.add 174 wna
theorem G51_ok:GlobOk Try.prog G51:=G50_ok.add ⟨Try.f174,Try.func174,by kernel_rfl,by kernel_rfl⟩ wsb
def vdf:q32T→List AV:=fun x=>[.bp 0 0,.str x.1,.str x.2.1,.bool x.2.2.1]
def vc9:q32T→St:=fun x=>[.box [.lst (.int .u8) x.2.2.2.1,.i x.2.2.2.2.1,.i x.2.2.2.2.2]]
def vu9:Nat→Option LoopSpec
 |15000008=>some (ctS [0,1,4,23] [] [.bp 0 0,.str,.str,.bool] [.box [.lst (.int .u8),.i,.i]] vcr (fun p q=>(p.2.1,p.2.2.1,p.2.2.2.1,q.1.1,q.1.2.1,q.1.2.2.1)) (fun k=>(Sum.elim (onE (exZ .ret vdf vc9) k) (onE (exZ .norm vdf vc9) k))))
 |2000010=>some ⟨[0,2,4,6,12,14,16,18,8,10,20,22],[],fun _ _ _=>none⟩
 |_=>none
theorem vrq:CtAt G51.shallow ⟨1,45,vu9⟩ Try.f98 15000008:=
 vcv rfl (fun x=>(n73n_jp15000008 x).p) vdf vc9 (Sum.elim ((exZ .ret vdf vc9)) ((exZ .norm vdf vc9))) (fun _ _=>⟨rfl,rfl⟩) (fun k z=>by rcases z with z|z<;>rfl) (fun x=>by kernel_rfl)
theorem wrl:vae Try.prog 98 wmb:=
 vaw G51_ok.shallow follows (Try.f98.body.getD .skip) Try.func98 (by kernel_rfl) fun p q=>⟨vu9,(n73n_p _ _ _ _).p.map _,by rw [wej];kernel_rfl,vab (ids:=[15000008]) (by kernel_rfl) (by kernel_rfl) ⟨vrq,trivial⟩⟩
def G52:Glob:=G51.add 98 wmb
theorem G52_ok:GlobOk Try.prog G52:=G51_ok.add ⟨Try.f98,Try.func98,by kernel_rfl,by kernel_rfl⟩ wrl
def v9r:Nat→Option LoopSpec
 |_=>none
theorem wp2:vae Try.prog 33 wmi:=
 vaw G52_ok.shallow follows (Try.f33.body.getD .skip) Try.func33 (by kernel_rfl) fun p q=>⟨v9r,(n46n_p _).p.map _,by rw [wg1];kernel_rfl,vab (ids:=[]) (by kernel_rfl) (by kernel_rfl) trivial⟩
def G53:Glob:=G52.add 33 wmi
theorem G53_ok:GlobOk Try.prog G53:=G52_ok.add ⟨Try.f33,Try.func33,by kernel_rfl,by kernel_rfl⟩ wp2
def vd1:q36T→List AV:=fun x=>[.str x.1,.i x.2.1,.i x.2.2.1,.i x.2.2.2.1,.bool x.2.2.2.2.1,.i x.2.2.2.2.2.1,.i x.2.2.2.2.2.2.1,.i x.2.2.2.2.2.2.2]
def vd2:q36T→St:=fun x=>[]
def vrm:q36T→List AV:=fun x=>[.str x.1,.i x.2.1,.i x.2.2.1,.i x.2.2.2.1,.bool x.2.2.2.2.1,.i x.2.2.2.2.2.1,.i x.2.2.2.2.2.2.1,.i x.2.2.2.2.2.2.2]
def vtb:q36T→St:=fun x=>[]
def vou:Nat→Option LoopSpec
 |6000001=>some (ctS [0,1,4,5,6,7,8,9] [] [.str,.i,.i,.i,.bool,.i,.i,.i] [] vey (fun p q=>(p.1,p.2.1,p.2.2.1,p.2.2.2.1,p.2.2.2.2.1,p.2.2.2.2.2.1,p.2.2.2.2.2.2.1,p.2.2.2.2.2.2.2.1)) (fun k=>(Sum.elim (onE (exZ .ret vd1 vd2) k) (onE (exZ .norm vd1 vd2) k))))
 |0=>some (lpS [0,1,4,5,6,7,8,9] [] [.str,.i,.i,.i,.bool,.i,.i,.i] [] vk1 (fun p q=>(p.1,p.2.1,p.2.2.1,p.2.2.2.1,p.2.2.2.2.1,p.2.2.2.2.2.1,p.2.2.2.2.2.2.1,p.2.2.2.2.2.2.2.1)) (fun k=>(Sum.elim (onE (exZ (.exit 0) vrm vtb) k) (onE (exZ .ret vrm vtb) k))))
 |2000011=>some ⟨[0,2,4,6,10,12,14,16,18,8,20,22],[],fun _ _ _=>none⟩
 |_=>none
theorem vul:CtAt G53.shallow ⟨0,58,vou⟩ Try.f175 6000001:=
 vcv rfl (fun x=>(n57n_jp6000001 x).p) vd1 vd2 (Sum.elim ((exZ .ret vd1 vd2)) ((exZ .norm vd1 vd2))) (fun _ _=>⟨rfl,rfl⟩) (fun k z=>by rcases z with z|z<;>rfl) (fun x=>by kernel_rfl)
theorem wiy:LpAt G53.shallow ⟨0,58,vou⟩ Try.f175 0:=
 vay rfl (fun x=>(n57n_bp0 x).p) vrm vtb (Sum.elim ((exZ (.exit 0) vrm vtb)) ((exZ .ret vrm vtb))) (fun _ _=>⟨rfl,rfl⟩) (fun z=>by rcases z with z|z<;>(intro h;cases h)) (fun k z=>by rcases z with z|z<;>rfl) (fun x=>by kernel_rfl)
theorem wqw:vae Try.prog 175 wli:=
 vaw G53_ok.shallow follows (Try.f175.body.getD .skip) Try.func175 (by kernel_rfl) fun p q=>⟨vou,(n57n_p _ _).p.map _,by rw [wc5];kernel_rfl,vab (ids:=[6000001,0]) (by kernel_rfl) (by kernel_rfl) ⟨vul,⟨wiy,trivial⟩⟩⟩
def G54:Glob:=G53.add 175 wli
theorem G54_ok:GlobOk Try.prog G54:=G53_ok.add ⟨Try.f175,Try.func175,by kernel_rfl,by kernel_rfl⟩ wqw
def wbk:Nat→Option LoopSpec
 |2000001=>some ⟨[0,2,4,6,8,10,12,14,16,18,20,22,24,26,28,30],[],fun _ _ _=>none⟩
 |_=>none
theorem wpy:vae Try.prog 99 wlt:=
 vaw G54_ok.shallow follows (Try.f99.body.getD .skip) Try.func99 (by kernel_rfl) fun p q=>⟨wbk,(n90n_p _ _ _).p.map _,by rw [wgk];kernel_rfl,vab (ids:=[]) (by kernel_rfl) (by kernel_rfl) trivial⟩
def G55:Glob:=G54.add 99 wlt
theorem G55_ok:GlobOk Try.prog G55:=G54_ok.add ⟨Try.f99,Try.func99,by kernel_rfl,by kernel_rfl⟩ wpy
def wa4:Nat→Option LoopSpec
 |_=>none
theorem wq5:vae Try.prog 176 wla:=
 vaw G55_ok.shallow follows (Try.f176.body.getD .skip) Try.func176 (by kernel_rfl) fun p q=>⟨wa4,(n55n_p _ _).p.map _,by rw [wgb];kernel_rfl,vab (ids:=[]) (by kernel_rfl) (by kernel_rfl) trivial⟩
def G56:Glob:=G55.add 176 wla
theorem G56_ok:GlobOk Try.prog G56:=G55_ok.add ⟨Try.f176,Try.func176,by kernel_rfl,by kernel_rfl⟩ wq5
def waa:Nat→Option LoopSpec
 |2000001=>some ⟨[0,2,4,6,8,10,12,14,16,18,20,22,24,26,28,30],[],fun _ _ _=>none⟩
 |_=>none
theorem wsi:vae Try.prog 100 wk1:=
 vaw G56_ok.shallow follows (Try.f100.body.getD .skip) Try.func100 (by kernel_rfl) fun p q=>⟨waa,(n87n_p _ _ _).p.map _,by rw [wga];kernel_rfl,vab (ids:=[]) (by kernel_rfl) (by kernel_rfl) trivial⟩
def G57:Glob:=G56.add 100 wk1
theorem G57_ok:GlobOk Try.prog G57:=G56_ok.add ⟨Try.f100,Try.func100,by kernel_rfl,by kernel_rfl⟩ wsi
def vh5:q18T→List AV:=fun x=>[.bp 0 0,.bool x.1]
def vh6:q18T→St:=fun x=>[.box [.str x.2.1,.i x.2.2.1,.bool x.2.2.2]]
def vv3:Nat→Option LoopSpec
 |5000004=>some (ctS [0,2] [] [.bp 0 0,.bool] [.box [.str,.i,.bool]] vep (fun p q=>(p.2.1,q.1.1,q.1.2.1,q.1.2.2.1)) (fun k=>(onE (exZ .ret vh5 vh6) k)))
 |2000001=>some ⟨[0,2,4,6,8,10,12,14,16,18,20,22,24,26,28,30,32,34,36,38,40,42,44,46,48,50,52,54],[],fun _ _ _=>none⟩
 |2000005=>some ⟨[0,2,4,6,8,10,12,14,16,18,20,22],[],fun _ _ _=>none⟩
 |_=>none
theorem vur:CtAt G57.shallow ⟨1,53,vv3⟩ Try.f101 5000004:=
 vcv rfl (fun x=>(n86n_jp5000004 x).p) vh5 vh6 (exZ .ret vh5 vh6) (fun _ _=>⟨rfl,rfl⟩) (fun _ _=>rfl) (fun x=>by kernel_rfl)
theorem wrd:vae Try.prog 101 wm4:=
 vaw G57_ok.shallow follows (Try.f101.body.getD .skip) Try.func101 (by kernel_rfl) fun p q=>⟨vv3,(n86n_p _ _ _).p.map _,by rw [wdb];kernel_rfl,vab (ids:=[5000004]) (by kernel_rfl) (by kernel_rfl) ⟨vur,trivial⟩⟩
def G58:Glob:=G57.add 101 wm4
theorem G58_ok:GlobOk Try.prog G58:=G57_ok.add ⟨Try.f101,Try.func101,by kernel_rfl,by kernel_rfl⟩ wrd
def vt6:q58T→List AV:=fun x=>[.bp 0 0,.dead,.dead,.bp 1 0,.bp 2 0]
def vup:q58T→St:=fun x=>let xh:=x.2.2.2.2.2.2.2.2;let xhh:=xh.2.2.2.2.2.2.2.2;[.box [.i x.1,.i x.2.1,.i x.2.2.1,.i x.2.2.2.1,.own 3,.own 4,.bool x.2.2.2.2.1,.str x.2.2.2.2.2.1],.box [.str x.2.2.2.2.2.2.1,.i x.2.2.2.2.2.2.2.1,.bool xh.1],.box [.i xh.2.1,.i xh.2.2.1,.i xh.2.2.2.1,.i xh.2.2.2.2.1,.own 5,.own 6,.bool xh.2.2.2.2.2.1,.str xh.2.2.2.2.2.2.1],.arr tRange xh.2.2.2.2.2.2.2.1,.arr tWrite xhh.1,.arr tRange xhh.2.1,.arr tWrite xhh.2.2]
def vkv:q42T→Out×List AV×St:=fun z=>let zh:=z.2.2.2.2.2.2.2.2;let zhh:=zh.2.2.2.2.2.2.2.2;(.ret,[.bp 0 0,.i z.1,.bool z.2.1,.bp 1 0,.bp 2 0],[.box [.i z.2.2.1,.i z.2.2.2.1,.i z.2.2.2.2.1,.i z.2.2.2.2.2.1,.own 3,.own 4,.bool z.2.2.2.2.2.2.1,.str z.2.2.2.2.2.2.2.1],.box [.str zh.1,.i zh.2.1,.bool zh.2.2.1],.box [.i zh.2.2.2.1,.i zh.2.2.2.2.1,.i zh.2.2.2.2.2.1,.i zh.2.2.2.2.2.2.1,.own 3,.own 4,.bool zh.2.2.2.2.2.2.2.1,.str zhh.1],.arr tRange zhh.2.1,.arr tWrite zhh.2.2])
def vh9:q61T→List AV:=fun x=>[.bp 0 0,.bp 1 0,.bp 2 0,.i x.1,.i x.2.1]
def vhg:q61T→St:=fun x=>let xh:=x.2.2.2.2.2.2.2.2;let xhh:=xh.2.2.2.2.2.2.2.2;[.box [.i x.2.2.1,.i x.2.2.2.1,.i x.2.2.2.2.1,.i x.2.2.2.2.2.1,.nilS,.nilS,.bool x.2.2.2.2.2.2.1,.str x.2.2.2.2.2.2.2.1],.box [.str xh.1,.i xh.2.1,.bool xh.2.2.1],.box [.i xh.2.2.2.1,.i xh.2.2.2.2.1,.i xh.2.2.2.2.2.1,.i xh.2.2.2.2.2.2.1,.own 3,.nilS,.bool xh.2.2.2.2.2.2.2.1,.str xhh.1],.arr tRange xhh.2]
def v3r:q61T→List AV:=fun x=>[.bp 0 0,.bp 1 0,.bp 2 0,.i x.1,.i x.2.1]
def v4i:q61T→St:=fun x=>let xh:=x.2.2.2.2.2.2.2.2;let xhh:=xh.2.2.2.2.2.2.2.2;[.box [.i x.2.2.1,.i x.2.2.2.1,.i x.2.2.2.2.1,.i x.2.2.2.2.2.1,.nilS,.nilS,.bool x.2.2.2.2.2.2.1,.str x.2.2.2.2.2.2.2.1],.box [.str xh.1,.i xh.2.1,.bool xh.2.2.1],.box [.i xh.2.2.2.1,.i xh.2.2.2.2.1,.i xh.2.2.2.2.2.1,.i xh.2.2.2.2.2.2.1,.own 3,.nilS,.bool xh.2.2.2.2.2.2.2.1,.str xhh.1],.arr tRange xhh.2]
def vid:q60T→List AV:=fun x=>[.bp 0 0,.bp 1 0,.bp 2 0,.i x.1,.i x.2.1]
def vhz:q60T→St:=fun x=>let xh:=x.2.2.2.2.2.2.2.2;let xhh:=xh.2.2.2.2.2.2.2.2;[.box [.i x.2.2.1,.i x.2.2.2.1,.i x.2.2.2.2.1,.i x.2.2.2.2.2.1,.nilS,.nilS,.bool x.2.2.2.2.2.2.1,.str x.2.2.2.2.2.2.2.1],.box [.str xh.1,.i xh.2.1,.bool xh.2.2.1],.box [.i xh.2.2.2.1,.i xh.2.2.2.2.1,.i xh.2.2.2.2.2.1,.i xh.2.2.2.2.2.2.1,.own 3,.own 4,.bool xh.2.2.2.2.2.2.2.1,.str xhh.1],.arr tRange xhh.2.1,.arr tWrite xhh.2.2]
def v47:q60T→List AV:=fun x=>[.bp 0 0,.bp 1 0,.bp 2 0,.i x.1,.i x.2.1]
def v4s:q60T→St:=fun x=>let xh:=x.2.2.2.2.2.2.2.2;let xhh:=xh.2.2.2.2.2.2.2.2;[.box [.i x.2.2.1,.i x.2.2.2.1,.i x.2.2.2.2.1,.i x.2.2.2.2.2.1,.nilS,.nilS,.bool x.2.2.2.2.2.2.1,.str x.2.2.2.2.2.2.2.1],.box [.str xh.1,.i xh.2.1,.bool xh.2.2.1],.box [.i xh.2.2.2.1,.i xh.2.2.2.2.1,.i xh.2.2.2.2.2.1,.i xh.2.2.2.2.2.2.1,.own 3,.own 4,.bool xh.2.2.2.2.2.2.2.1,.str xhh.1],.arr tRange xhh.2.1,.arr tWrite xhh.2.2]
def vgh:Nat→Option LoopSpec
 |5000025=>some (ctS [4,5,6,7,8] [none,none,none,none,none,none,none,none,none,some tRange,some tWrite,none,none,none,none,none,none,none,none,none,some tRange] [.bp 0 0,.dead,.dead,.bp 1 0,.bp 2 0] [.box [.i,.i,.i,.i,.own 3,.own 4,.bool,.str],.box [.str,.i,.bool],.box [.i,.i,.i,.i,.own 5,.own 6,.bool,.str],.arr tRange,.arr tWrite,.arr tRange,.arr tWrite] vgc (fun p q=>(q.1.1,q.1.2.1,q.1.2.2.1,q.1.2.2.2.1,q.1.2.2.2.2.2.2.1,q.1.2.2.2.2.2.2.2.1,q.2.1.1,q.2.1.2.1,q.2.1.2.2.1,q.2.2.1.1,q.2.2.1.2.1,q.2.2.1.2.2.1,q.2.2.1.2.2.2.1,q.2.2.1.2.2.2.2.2.2.1,q.2.2.1.2.2.2.2.2.2.2.1,q.2.2.2.1,q.2.2.2.2.1,q.2.2.2.2.2.1,q.2.2.2.2.2.2.1)) (fun k=>(onE vkv k)))
 |6000001=>some (ctS [4,7,8,9,10] [none,none,none,none,none,none,none,none,none,none,none,none,none,none,none,none,none,none,none,none,some tRange] [.bp 0 0,.bp 1 0,.bp 2 0,.i,.i] [.box [.i,.i,.i,.i,.nilS,.nilS,.bool,.str],.box [.str,.i,.bool],.box [.i,.i,.i,.i,.own 3,.nilS,.bool,.str],.arr tRange] ve2 (fun p q=>(p.2.2.2.1,p.2.2.2.2.1,q.1.1,q.1.2.1,q.1.2.2.1,q.1.2.2.2.1,q.1.2.2.2.2.2.2.1,q.1.2.2.2.2.2.2.2.1,q.2.1.1,q.2.1.2.1,q.2.1.2.2.1,q.2.2.1.1,q.2.2.1.2.1,q.2.2.1.2.2.1,q.2.2.1.2.2.2.1,q.2.2.1.2.2.2.2.2.2.1,q.2.2.1.2.2.2.2.2.2.2.1,q.2.2.2.1)) (fun k=>(onE (exZ .norm vh9 vhg) k)))
 |0=>some (lpS [4,7,8,9,10] [none,none,none,none,none,none,none,none,none,none,none,none,none,none,none,none,none,none,none,none,some tRange] [.bp 0 0,.bp 1 0,.bp 2 0,.i,.i] [.box [.i,.i,.i,.i,.nilS,.nilS,.bool,.str],.box [.str,.i,.bool],.box [.i,.i,.i,.i,.own 3,.nilS,.bool,.str],.arr tRange] vlt (fun p q=>(p.2.2.2.1,p.2.2.2.2.1,q.1.1,q.1.2.1,q.1.2.2.1,q.1.2.2.2.1,q.1.2.2.2.2.2.2.1,q.1.2.2.2.2.2.2.2.1,q.2.1.1,q.2.1.2.1,q.2.1.2.2.1,q.2.2.1.1,q.2.2.1.2.1,q.2.2.1.2.2.1,q.2.2.1.2.2.2.1,q.2.2.1.2.2.2.2.2.2.1,q.2.2.1.2.2.2.2.2.2.2.1,q.2.2.2.1)) (fun k=>(onE (exZ (.exit 0) v3r v4i) k)))
 |6000003=>some (ctS [4,7,8,12,13] [none,none,none,none,none,none,none,none,none,none,none,none,none,none,none,none,none,none,none,none,some tRange,some tWrite] [.bp 0 0,.bp 1 0,.bp 2 0,.i,.i] [.box [.i,.i,.i,.i,.nilS,.nilS,.bool,.str],.box [.str,.i,.bool],.box [.i,.i,.i,.i,.own 3,.own 4,.bool,.str],.arr tRange,.arr tWrite] ve0 (fun p q=>(p.2.2.2.1,p.2.2.2.2.1,q.1.1,q.1.2.1,q.1.2.2.1,q.1.2.2.2.1,q.1.2.2.2.2.2.2.1,q.1.2.2.2.2.2.2.2.1,q.2.1.1,q.2.1.2.1,q.2.1.2.2.1,q.2.2.1.1,q.2.2.1.2.1,q.2.2.1.2.2.1,q.2.2.1.2.2.2.1,q.2.2.1.2.2.2.2.2.2.1,q.2.2.1.2.2.2.2.2.2.2.1,q.2.2.2.1,q.2.2.2.2.1)) (fun k=>(onE (exZ .norm vid vhz) k)))
 |2=>some (lpS [4,7,8,12,13] [none,none,none,none,none,none,none,none,none,none,none,none,none,none,none,none,none,none,none,none,some tRange,some tWrite] [.bp 0 0,.bp 1 0,.bp 2 0,.i,.i] [.box [.i,.i,.i,.i,.nilS,.nilS,.bool,.str],.box [.str,.i,.bool],.box [.i,.i,.i,.i,.own 3,.own 4,.bool,.str],.arr tRange,.arr tWrite] vkr (fun p q=>(p.2.2.2.1,p.2.2.2.2.1,q.1.1,q.1.2.1,q.1.2.2.1,q.1.2.2.2.1,q.1.2.2.2.2.2.2.1,q.1.2.2.2.2.2.2.2.1,q.2.1.1,q.2.1.2.1,q.2.1.2.2.1,q.2.2.1.1,q.2.2.1.2.1,q.2.2.1.2.2.1,q.2.2.1.2.2.2.1,q.2.2.1.2.2.2.2.2.2.1,q.2.2.1.2.2.2.2.2.2.2.1,q.2.2.2.1,q.2.2.2.2.1)) (fun k=>(onE (exZ (.exit 2) v47 v4s) k)))
 |1000025=>some ⟨[0],[],fun _ _ _=>none⟩
 |3000000=>some ⟨[],[none,none,none,none,some tRange,some tWrite],fun _ _ _=>none⟩
 |_=>none
theorem vue:CtAt G58.shallow ⟨0,115,vgh⟩ Try.f34 5000025:=
 vcv rfl (fun x=>(n56n_jp5000025 x).p) vt6 vup vkv (fun _ _=>⟨rfl,rfl⟩) (fun _ _=>rfl) (fun x=>by kernel_rfl)
theorem vuq:CtAt G58.shallow ⟨0,115,vgh⟩ Try.f34 6000001:=
 vcv rfl (fun x=>(n56n_jp6000001 x).p) vh9 vhg (exZ .norm vh9 vhg) (fun _ _=>⟨rfl,rfl⟩) (fun _ _=>rfl) (fun x=>by kernel_rfl)
theorem wj6:LpAt G58.shallow ⟨0,115,vgh⟩ Try.f34 0:=
 vay rfl (fun x=>(n56n_bp0 x).p) v3r v4i (exZ (.exit 0) v3r v4i) (fun _ _=>⟨rfl,rfl⟩) (fun z=>by(intro h;cases h)) (fun _ _=>rfl) (fun x=>by kernel_rfl)
theorem vuu:CtAt G58.shallow ⟨0,115,vgh⟩ Try.f34 6000003:=
 vcv rfl (fun x=>(n56n_jp6000003 x).p) vid vhz (exZ .norm vid vhz) (fun _ _=>⟨rfl,rfl⟩) (fun _ _=>rfl) (fun x=>by kernel_rfl)
theorem wie:LpAt G58.shallow ⟨0,115,vgh⟩ Try.f34 2:=
 vay rfl (fun x=>(n56n_bp2 x).p) v47 v4s (exZ (.exit 2) v47 v4s) (fun _ _=>⟨rfl,rfl⟩) (fun z=>by(intro h;cases h)) (fun _ _=>rfl) (fun x=>by kernel_rfl)
theorem wr6:vae Try.prog 34 wmj:=
 vaw G58_ok.shallow follows (Try.f34.body.getD .skip) Try.func34 (by kernel_rfl) fun p q=>⟨vgh,(n56n_p _ _).p.map _,by rw [wds];kernel_rfl,vab (ids:=[5000025,6000001,0,6000003,2]) (by kernel_rfl) (by kernel_rfl) ⟨vue,⟨vuq,⟨wj6,⟨vuu,⟨wie,trivial⟩⟩⟩⟩⟩⟩
def G59:Glob:=G58.add 34 wmj
theorem G59_ok:GlobOk Try.prog G59:=G58_ok.add ⟨Try.f34,Try.func34,by kernel_rfl,by kernel_rfl⟩ wr6
def vua:q52T→List AV:=fun x=>[.bp 0 0,.bp 1 0,.bp 2 0,.bp 3 0,.bp 4 0]
def vuz:q52T→St:=fun x=>let xh:=x.2.2.2.2.2.2.2.2;let xhh:=xh.2.2.2.2.2.2.2.2;[.box [.i x.1,.i x.2.1,.i x.2.2.1,.i x.2.2.2.1,.own 5,.own 6,.bool x.2.2.2.2.1,.str x.2.2.2.2.2.1],.box [.str x.2.2.2.2.2.2.1,.str x.2.2.2.2.2.2.2.1],.box [.lst (.int .u8) xh.1,.i xh.2.1,.i xh.2.2.1],.box [.str xh.2.2.2.1,.str xh.2.2.2.2.1],.box [.i xh.2.2.2.2.2.1,.i xh.2.2.2.2.2.2.1,.i xh.2.2.2.2.2.2.2.1,.i xhh.1,.own 7,.own 8,.bool xhh.2.1,.str xhh.2.2.1],.arr tRange xhh.2.2.2.1,.arr tWrite xhh.2.2.2.2.1,.arr tRange xhh.2.2.2.2.2.1,.arr tWrite xhh.2.2.2.2.2.2]
def vkn:q53T→Out×List AV×St:=fun z=>let zh:=z.2.2.2.2.2.2.2.2;let zhh:=zh.2.2.2.2.2.2.2.2;(.ret,[.bp 0 0,.bp 1 0,.bp 2 0,.bp 3 0,.bp 4 0],[.box [.i z.1,.i z.2.1,.i z.2.2.1,.i z.2.2.2.1,.own 5,.own 6,.bool z.2.2.2.2.1,.str z.2.2.2.2.2.1],.box [.str z.2.2.2.2.2.2.1,.str z.2.2.2.2.2.2.2.1],.box [.lst (.int .u8) zh.1,.i zh.2.1,.i zh.2.2.1],.box [.str zh.2.2.2.1,.str zh.2.2.2.2.1],.box [.i zh.2.2.2.2.2.1,.i zh.2.2.2.2.2.2.1,.i zh.2.2.2.2.2.2.2.1,.i zhh.1,.own 5,.own 6,.bool zhh.2.1,.str zhh.2.2.1],.arr tRange zhh.2.2.2.1,.arr tWrite zhh.2.2.2.2])
def vxb:Nat→Option LoopSpec
 |5000007=>some (ctS [2,3,4,6,7] [none,none,none,none,none,none,none,none,none,some tRange,some tWrite,none,none,none,none,none,none,none,none,none,none,none,none,none,none,some tWrite] [.bp 0 0,.bp 1 0,.bp 2 0,.bp 3 0,.bp 4 0] [.box [.i,.i,.i,.i,.own 5,.own 6,.bool,.str],.box [.str,.str],.box [.lst (.int .u8),.i,.i],.box [.str,.str],.box [.i,.i,.i,.i,.own 7,.own 8,.bool,.str],.arr tRange,.arr tWrite,.arr tRange,.arr tWrite] vcz (fun p q=>(q.1.1,q.1.2.1,q.1.2.2.1,q.1.2.2.2.1,q.1.2.2.2.2.2.2.1,q.1.2.2.2.2.2.2.2.1,q.2.1.1,q.2.1.2.1,q.2.2.1.1,q.2.2.1.2.1,q.2.2.1.2.2.1,q.2.2.2.1.1,q.2.2.2.1.2.1,q.2.2.2.2.1.1,q.2.2.2.2.1.2.1,q.2.2.2.2.1.2.2.1,q.2.2.2.2.1.2.2.2.1,q.2.2.2.2.1.2.2.2.2.2.2.1,q.2.2.2.2.1.2.2.2.2.2.2.2.1,q.2.2.2.2.2.1,q.2.2.2.2.2.2.1,q.2.2.2.2.2.2.2.1,q.2.2.2.2.2.2.2.2.1)) (fun k=>(onE vkn k)))
 |1000010=>some ⟨[0],[],fun _ _ _=>none⟩
 |_=>none
theorem vuo:CtAt G59.shallow ⟨0,36,vxb⟩ Try.f35 5000007:=
 vcv rfl (fun x=>(n45n_jp5000007 x).p) vua vuz vkn (fun _ _=>⟨rfl,rfl⟩) (fun _ _=>rfl) (fun x=>by kernel_rfl)
theorem wpd:vae Try.prog 35 wmg:=
 vaw G59_ok.shallow follows (Try.f35.body.getD .skip) Try.func35 (by kernel_rfl) fun p q=>⟨vxb,(n45n_p _).p.map _,by rw [we5];kernel_rfl,vab (ids:=[5000007]) (by kernel_rfl) (by kernel_rfl) ⟨vuo,trivial⟩⟩
def G60:Glob:=G59.add 35 wmg
theorem G60_ok:GlobOk Try.prog G60:=G59_ok.add ⟨Try.f35,Try.func35,by kernel_rfl,by kernel_rfl⟩ wpd
def waj:Nat→Option LoopSpec
 |_=>none
theorem wqu:vae Try.prog 105 wk6:=
 vaw G60_ok follows (Try.f105.body.getD .skip) Try.func105 (by kernel_rfl) fun p q=>⟨waj,(n16n_p _).p.map _,by rw [wd0];kernel_rfl,vab (ids:=[]) (by kernel_rfl) (by kernel_rfl) trivial⟩
def G61:Glob:=G60.add 105 wk6
theorem G61_ok:GlobOk Try.prog G61:=G60_ok.add ⟨Try.f105,Try.func105,by kernel_rfl,by kernel_rfl⟩ wqu
def vsb:q5T→List AV:=fun x=>[.lst tRange x.1,.bp 0 0,.i x.2.1,.i x.2.2.1,.i x.2.2.2.1]
def vq9:q5T→St:=fun x=>[.box [.str x.2.2.2.2.1,.str x.2.2.2.2.2]]
def vvp:Nat→Option LoopSpec
 |0=>some (lpS [0,3,4,7,8] [] [.lst tRange,.bp 0 0,.i,.i,.i] [.box [.str,.str]] vki (fun p q=>(p.1,p.2.2.1,p.2.2.2.1,p.2.2.2.2.1,q.1.1,q.1.2.1)) (fun k=>(Sum.elim (onE (exZ .ret vsb vq9) k) (onE (exZ (.exit 0) vsb vq9) k))))
 |_=>none
theorem wke:LpAt G61 ⟨0,19,vvp⟩ Try.f177 0:=
 vay rfl (fun x=>(n42n_bp0 x).p) vsb vq9 (Sum.elim ((exZ .ret vsb vq9)) ((exZ (.exit 0) vsb vq9))) (fun _ _=>⟨rfl,rfl⟩) (fun z=>by rcases z with z|z<;>(intro h;cases h)) (fun k z=>by rcases z with z|z<;>rfl) (fun x=>by kernel_rfl)
theorem wqn:vae Try.prog 177 wm5:=
 vaw G61_ok follows (Try.f177.body.getD .skip) Try.func177 (by kernel_rfl) fun p q=>⟨vvp,(n42n_p _ _).p.map _,by rw [wck];kernel_rfl,vab (ids:=[0]) (by kernel_rfl) (by kernel_rfl) ⟨wke,trivial⟩⟩
def G62:Glob:=G61.add 177 wm5
theorem G62_ok:GlobOk Try.prog G62:=G61_ok.add ⟨Try.f177,Try.func177,by kernel_rfl,by kernel_rfl⟩ wqn
def wbp:Nat→Option LoopSpec
 |_=>none
theorem wpj:vae Try.prog 107 wnb:=
 vaw G62_ok follows (Try.f107.body.getD .skip) Try.func107 (by kernel_rfl) fun p q=>⟨wbp,(n40n_p _ _).p.map _,by rw [wcr];kernel_rfl,vab (ids:=[]) (by kernel_rfl) (by kernel_rfl) trivial⟩
def G63:Glob:=G62.add 107 wnb
theorem G63_ok:GlobOk Try.prog G63:=G62_ok.add ⟨Try.f107,Try.func107,by kernel_rfl,by kernel_rfl⟩ wpj
def vun:q21T→List AV:=fun x=>[.bp 0 0,.bp 1 0,.bp 2 0,.bool x.1,.bp 3 0]
def vt7:q21T→St:=fun x=>let xh:=x.2.2.2.2.2.2.2.2;let xhh:=xh.2.2.2.2.2.2.2.2;let xhhh:=xhh.2.2.2.2.2.2.2.2;[.box [.i x.2.1,.i x.2.2.1,.i x.2.2.2.1,.i x.2.2.2.2.1,.lst tRange x.2.2.2.2.2.1,.lst tWrite x.2.2.2.2.2.2.1,.bool x.2.2.2.2.2.2.2.1,.str xh.1],.box [.str xh.2.1,.str xh.2.2.1],.box [.i xh.2.2.2.1,.i xh.2.2.2.2.1,.i xh.2.2.2.2.2.1,.i xh.2.2.2.2.2.2.1,.own 4,.own 5,.bool xh.2.2.2.2.2.2.2.1,.str xhh.1],.box [.i xhh.2.1,.i xhh.2.2.1,.i xhh.2.2.2.1,.i xhh.2.2.2.2.1,.own 6,.own 7,.bool xhh.2.2.2.2.2.1,.str xhh.2.2.2.2.2.2.1],.arr tRange xhh.2.2.2.2.2.2.2.1,.arr tWrite xhhh.1,.arr tRange xhhh.2.1,.arr tWrite xhhh.2.2]
def vlx:q22T→Out×List AV×St:=fun z=>let zh:=z.2.2.2.2.2.2.2.2;let zhh:=zh.2.2.2.2.2.2.2.2;(.ret,[.bp 0 0,.bp 1 0,.bp 2 0,.bool z.1,.bp 3 0],[.box [.i z.2.1,.i z.2.2.1,.i z.2.2.2.1,.i z.2.2.2.2.1,.lst tRange z.2.2.2.2.2.1,.lst tWrite z.2.2.2.2.2.2.1,.bool z.2.2.2.2.2.2.2.1,.str zh.1],.box [.str zh.2.1,.str zh.2.2.1],.box [.i zh.2.2.2.1,.i zh.2.2.2.2.1,.i zh.2.2.2.2.2.1,.i zh.2.2.2.2.2.2.1,.own 4,.own 5,.bool zh.2.2.2.2.2.2.2.1,.str zhh.1],.box [.i zhh.2.1,.i zhh.2.2.1,.i zhh.2.2.2.1,.i zhh.2.2.2.2.1,.own 4,.own 5,.bool zhh.2.2.2.2.2.1,.str zhh.2.2.2.2.2.2.1],.arr tRange zhh.2.2.2.2.2.2.2.1,.arr tWrite zhh.2.2.2.2.2.2.2.2])
def vw6:Nat→Option LoopSpec
 |5000004=>some (ctS [2,3,4,5,6] [none,none,none,none,none,none,none,none,none,none,none,none,none,none,none,none,none,none,none,some tRange,some tWrite] [.bp 0 0,.bp 1 0,.bp 2 0,.bool,.bp 3 0] [.box [.i,.i,.i,.i,.lst tRange,.lst tWrite,.bool,.str],.box [.str,.str],.box [.i,.i,.i,.i,.own 4,.own 5,.bool,.str],.box [.i,.i,.i,.i,.own 6,.own 7,.bool,.str],.arr tRange,.arr tWrite,.arr tRange,.arr tWrite] vdk (fun p q=>(p.2.2.2.1,q.1.1,q.1.2.1,q.1.2.2.1,q.1.2.2.2.1,q.1.2.2.2.2.1,q.1.2.2.2.2.2.1,q.1.2.2.2.2.2.2.1,q.1.2.2.2.2.2.2.2.1,q.2.1.1,q.2.1.2.1,q.2.2.1.1,q.2.2.1.2.1,q.2.2.1.2.2.1,q.2.2.1.2.2.2.1,q.2.2.1.2.2.2.2.2.2.1,q.2.2.1.2.2.2.2.2.2.2.1,q.2.2.2.1.1,q.2.2.2.1.2.1,q.2.2.2.1.2.2.1,q.2.2.2.1.2.2.2.1,q.2.2.2.1.2.2.2.2.2.2.1,q.2.2.2.1.2.2.2.2.2.2.2.1,q.2.2.2.2.1,q.2.2.2.2.2.1,q.2.2.2.2.2.2.1,q.2.2.2.2.2.2.2.1)) (fun k=>(onE vlx k)))
 |_=>none
theorem vut:CtAt G63 ⟨0,40,vw6⟩ Try.f36 5000004:=
 vcv rfl (fun x=>(n04n_jp5000004 x).p) vun vt7 vlx (fun _ _=>⟨rfl,rfl⟩) (fun _ _=>rfl) (fun x=>by kernel_rfl)
theorem wpv:vae Try.prog 36 wmt:=
 vaw G63_ok follows (Try.f36.body.getD .skip) Try.func36 (by kernel_rfl) fun p q=>⟨vw6,(n04n_p _ _).p.map _,by rw [wca];kernel_rfl,vab (ids:=[5000004]) (by kernel_rfl) (by kernel_rfl) ⟨vut,trivial⟩⟩
def G64:Glob:=G63.add 36 wmt
theorem G64_ok:GlobOk Try.prog G64:=G63_ok.add ⟨Try.f36,Try.func36,by kernel_rfl,by kernel_rfl⟩ wpv
def v4x:q26T→List AV:=fun x=>[.bp 0 0,.bp 1 0,.bp 2 0,.bool x.1,.bp 3 0,.i x.2.1]
def v5e:q26T→St:=fun x=>let xh:=x.2.2.2.2.2.2.2.2;let xhh:=xh.2.2.2.2.2.2.2.2;let xhhh:=xhh.2.2.2.2.2.2.2.2;[.box [.i x.2.2.1,.i x.2.2.2.1,.i x.2.2.2.2.1,.i x.2.2.2.2.2.1,.lst tRange x.2.2.2.2.2.2.1,.lst tWrite x.2.2.2.2.2.2.2.1,.bool xh.1,.str xh.2.1],.box [.str xh.2.2.1,.str xh.2.2.2.1],.box [.i xh.2.2.2.2.1,.i xh.2.2.2.2.2.1,.i xh.2.2.2.2.2.2.1,.i xh.2.2.2.2.2.2.2.1,.own 4,.own 5,.bool xhh.1,.str xhh.2.1],.box [.i xhh.2.2.1,.i xhh.2.2.2.1,.i xhh.2.2.2.2.1,.i xhh.2.2.2.2.2.1,.own 6,.own 7,.bool xhh.2.2.2.2.2.2.1,.str xhh.2.2.2.2.2.2.2.1],.arr tRange xhhh.1,.arr tWrite xhhh.2.1,.arr tRange xhhh.2.2.1,.arr tWrite xhhh.2.2.2]
def v80:q27T→Out×List AV×St:=fun z=>let zh:=z.2.2.2.2.2.2.2.2;let zhh:=zh.2.2.2.2.2.2.2.2;let zhhh:=zhh.2.2.2.2.2.2.2.2;(.ret,[.bp 0 0,.bp 1 0,.bp 2 0,.bool z.1,.bp 3 0,.i z.2.1],[.box [.i z.2.2.1,.i z.2.2.2.1,.i z.2.2.2.2.1,.i z.2.2.2.2.2.1,.lst tRange z.2.2.2.2.2.2.1,.lst tWrite z.2.2.2.2.2.2.2.1,.bool zh.1,.str zh.2.1],.box [.str zh.2.2.1,.str zh.2.2.2.1],.box [.i zh.2.2.2.2.1,.i zh.2.2.2.2.2.1,.i zh.2.2.2.2.2.2.1,.i zh.2.2.2.2.2.2.2.1,.own 4,.own 5,.bool zhh.1,.str zhh.2.1],.box [.i zhh.2.2.1,.i zhh.2.2.2.1,.i zhh.2.2.2.2.1,.i zhh.2.2.2.2.2.1,.own 4,.own 5,.bool zhh.2.2.2.2.2.2.1,.str zhh.2.2.2.2.2.2.2.1],.arr tRange zhhh.1,.arr tWrite zhhh.2])
def vu6:q21T→List AV:=fun x=>[.bp 0 0,.bp 1 0,.bp 2 0,.bool x.1,.bp 3 0]
def vtx:q21T→St:=fun x=>let xh:=x.2.2.2.2.2.2.2.2;let xhh:=xh.2.2.2.2.2.2.2.2;let xhhh:=xhh.2.2.2.2.2.2.2.2;[.box [.i x.2.1,.i x.2.2.1,.i x.2.2.2.1,.i x.2.2.2.2.1,.lst tRange x.2.2.2.2.2.1,.lst tWrite x.2.2.2.2.2.2.1,.bool x.2.2.2.2.2.2.2.1,.str xh.1],.box [.str xh.2.1,.str xh.2.2.1],.box [.i xh.2.2.2.1,.i xh.2.2.2.2.1,.i xh.2.2.2.2.2.1,.i xh.2.2.2.2.2.2.1,.own 4,.own 5,.bool xh.2.2.2.2.2.2.2.1,.str xhh.1],.box [.i xhh.2.1,.i xhh.2.2.1,.i xhh.2.2.2.1,.i xhh.2.2.2.2.1,.own 6,.own 7,.bool xhh.2.2.2.2.2.1,.str xhh.2.2.2.2.2.2.1],.arr tRange xhh.2.2.2.2.2.2.2.1,.arr tWrite xhhh.1,.arr tRange xhhh.2.1,.arr tWrite xhhh.2.2]
def vkw:q22T→Out×List AV×St:=fun z=>let zh:=z.2.2.2.2.2.2.2.2;let zhh:=zh.2.2.2.2.2.2.2.2;(.ret,[.bp 0 0,.bp 1 0,.bp 2 0,.bool z.1,.bp 3 0],[.box [.i z.2.1,.i z.2.2.1,.i z.2.2.2.1,.i z.2.2.2.2.1,.lst tRange z.2.2.2.2.2.1,.lst tWrite z.2.2.2.2.2.2.1,.bool z.2.2.2.2.2.2.2.1,.str zh.1],.box [.str zh.2.1,.str zh.2.2.1],.box [.i zh.2.2.2.1,.i zh.2.2.2.2.1,.i zh.2.2.2.2.2.1,.i zh.2.2.2.2.2.2.1,.own 4,.own 5,.bool zh.2.2.2.2.2.2.2.1,.str zhh.1],.box [.i zhh.2.1,.i zhh.2.2.1,.i zhh.2.2.2.1,.i zhh.2.2.2.2.1,.own 4,.own 5,.bool zhh.2.2.2.2.2.1,.str zhh.2.2.2.2.2.2.1],.arr tRange zhh.2.2.2.2.2.2.2.1,.arr tWrite zhh.2.2.2.2.2.2.2.2])
def vo9:Nat→Option LoopSpec
 |0=>some (lpS [2,3,4,5,6,7] [none,none,none,none,none,none,none,none,none,none,none,none,none,none,none,none,none,none,none,none,some tRange,some tWrite] [.bp 0 0,.bp 1 0,.bp 2 0,.bool,.bp 3 0,.i] [.box [.i,.i,.i,.i,.lst tRange,.lst tWrite,.bool,.str],.box [.str,.str],.box [.i,.i,.i,.i,.own 4,.own 5,.bool,.str],.box [.i,.i,.i,.i,.own 6,.own 7,.bool,.str],.arr tRange,.arr tWrite,.arr tRange,.arr tWrite] vkg (fun p q=>(p.2.2.2.1,p.2.2.2.2.2.1,q.1.1,q.1.2.1,q.1.2.2.1,q.1.2.2.2.1,q.1.2.2.2.2.1,q.1.2.2.2.2.2.1,q.1.2.2.2.2.2.2.1,q.1.2.2.2.2.2.2.2.1,q.2.1.1,q.2.1.2.1,q.2.2.1.1,q.2.2.1.2.1,q.2.2.1.2.2.1,q.2.2.1.2.2.2.1,q.2.2.1.2.2.2.2.2.2.1,q.2.2.1.2.2.2.2.2.2.2.1,q.2.2.2.1.1,q.2.2.2.1.2.1,q.2.2.2.1.2.2.1,q.2.2.2.1.2.2.2.1,q.2.2.2.1.2.2.2.2.2.2.1,q.2.2.2.1.2.2.2.2.2.2.2.1,q.2.2.2.2.1,q.2.2.2.2.2.1,q.2.2.2.2.2.2.1,q.2.2.2.2.2.2.2.1)) (fun k=>(Sum.elim (onE (exZ (.exit 0) v4x v5e) k) (onE v80 k))))
 |5000004=>some (ctS [2,3,4,5,6] [none,none,none,none,none,none,none,none,none,none,none,none,none,none,none,none,none,none,none,some tRange,some tWrite] [.bp 0 0,.bp 1 0,.bp 2 0,.bool,.bp 3 0] [.box [.i,.i,.i,.i,.lst tRange,.lst tWrite,.bool,.str],.box [.str,.str],.box [.i,.i,.i,.i,.own 4,.own 5,.bool,.str],.box [.i,.i,.i,.i,.own 6,.own 7,.bool,.str],.arr tRange,.arr tWrite,.arr tRange,.arr tWrite] vdr (fun p q=>(p.2.2.2.1,q.1.1,q.1.2.1,q.1.2.2.1,q.1.2.2.2.1,q.1.2.2.2.2.1,q.1.2.2.2.2.2.1,q.1.2.2.2.2.2.2.1,q.1.2.2.2.2.2.2.2.1,q.2.1.1,q.2.1.2.1,q.2.2.1.1,q.2.2.1.2.1,q.2.2.1.2.2.1,q.2.2.1.2.2.2.1,q.2.2.1.2.2.2.2.2.2.1,q.2.2.1.2.2.2.2.2.2.2.1,q.2.2.2.1.1,q.2.2.2.1.2.1,q.2.2.2.1.2.2.1,q.2.2.2.1.2.2.2.1,q.2.2.2.1.2.2.2.2.2.2.1,q.2.2.2.1.2.2.2.2.2.2.2.1,q.2.2.2.2.1,q.2.2.2.2.2.1,q.2.2.2.2.2.2.1,q.2.2.2.2.2.2.2.1)) (fun k=>(onE vkw k)))
 |_=>none
theorem wg8:LpAt G64.shallow ⟨0,51,vo9⟩ Try.f37 0:=
 vay rfl (fun x=>(n54n_bp0 x).p) v4x v5e (Sum.elim ((exZ (.exit 0) v4x v5e)) (v80)) (fun _ _=>⟨rfl,rfl⟩) (fun z=>by rcases z with z|z<;>(intro h;cases h)) (fun k z=>by rcases z with z|z<;>rfl) (fun x=>by kernel_rfl)
theorem vu3:CtAt G64.shallow ⟨0,51,vo9⟩ Try.f37 5000004:=
 vcv rfl (fun x=>(n54n_jp5000004 x).p) vu6 vtx vkw (fun _ _=>⟨rfl,rfl⟩) (fun _ _=>rfl) (fun x=>by kernel_rfl)
theorem wry:vae Try.prog 37 wmu:=
 vaw G64_ok.shallow follows (Try.f37.body.getD .skip) Try.func37 (by kernel_rfl) fun p q=>⟨vo9,(n54n_p _ _).p.map _,by rw [wgh];kernel_rfl,vab (ids:=[0,5000004]) (by kernel_rfl) (by kernel_rfl) ⟨wg8,⟨vu3,trivial⟩⟩⟩
def G65:Glob:=G64.add 37 wmu
theorem G65_ok:GlobOk Try.prog G65:=G64_ok.add ⟨Try.f37,Try.func37,by kernel_rfl,by kernel_rfl⟩ wry
def v9s:Nat→Option LoopSpec
 |1000007=>some ⟨[0],[],fun _ _ _=>none⟩
 |3000000=>some ⟨[],[none,none,none,none,some tRange],fun _ _ _=>none⟩
 |_=>none
theorem wo8:vae Try.prog 38 wlm:=
 vaw G65_ok.shallow follows (Try.f38.body.getD .skip) Try.func38 (by kernel_rfl) fun p q=>⟨v9s,(n48n_p _).p.map _,by rw [wb7];kernel_rfl,vab (ids:=[]) (by kernel_rfl) (by kernel_rfl) trivial⟩
def G66:Glob:=G65.add 38 wlm
theorem G66_ok:GlobOk Try.prog G66:=G65_ok.add ⟨Try.f38,Try.func38,by kernel_rfl,by kernel_rfl⟩ wo8
theorem vlk:vae Try.prog 181 vdb:=by
 intro args s k r hk
 unfold vdb at hk
 rw [v68]at hk
 unfold vwx at hk
 exact vzz Try.insLaya (by decide) (e:=tWrite) rfl #[.string ⟨#[]⟩,.string ⟨#[]⟩,.bool false] rfl rfl args s k r hk
def G67:Glob:=G66.add 181 vdb
theorem G67_ok:GlobOk Try.prog G67:=G66_ok.add ⟨Try.f181,Try.func181,by kernel_rfl,by kernel_rfl⟩ vlk
def vho:q44T→List AV:=fun x=>[.bp 0 0,.own 1,.i x.1]
def vh1:q44T→St:=fun x=>[.box [.str x.2.1,.str x.2.2.1,.bool x.2.2.2.1],.arr tWrite x.2.2.2.2]
def v3o:q44T→List AV:=fun x=>[.bp 0 0,.own 1,.i x.1]
def v4e:q44T→St:=fun x=>[.box [.str x.2.1,.str x.2.2.1,.bool x.2.2.2.1],.arr tWrite x.2.2.2.2]
def vpb:Nat→Option LoopSpec
 |6000001=>some (ctS [3,5,6] [] [.bp 0 0,.own 1,.i] [.box [.str,.str,.bool],.arr tWrite] ven (fun p q=>(p.2.2.1,q.1.1,q.1.2.1,q.1.2.2.1,q.2.1)) (fun k=>(onE (exZ .norm vho vh1) k)))
 |0=>some (lpS [3,5,6] [] [.bp 0 0,.own 1,.i] [.box [.str,.str,.bool],.arr tWrite] vne (fun p q=>(p.2.2.1,q.1.1,q.1.2.1,q.1.2.2.1,q.2.1)) (fun k=>(onE (exZ (.exit 0) v3o v4e) k)))
 |2000003=>some ⟨[0,2,4,6,8,10,12,14,16,18,20,22,24,26],[],fun _ _ _=>none⟩
 |2000005=>some ⟨[0,2,4,6,8,10,12,14,16,18,20,22,24,26],[],fun _ _ _=>none⟩
 |_=>none
theorem vum:CtAt G67 ⟨0,49,vpb⟩ Try.f113 6000001:=
 vcv rfl (fun x=>(n02n_jp6000001 x).p) vho vh1 (exZ .norm vho vh1) (fun _ _=>⟨rfl,rfl⟩) (fun _ _=>rfl) (fun x=>by kernel_rfl)
theorem wi7:LpAt G67 ⟨0,49,vpb⟩ Try.f113 0:=
 vay rfl (fun x=>(n02n_bp0 x).p) v3o v4e (exZ (.exit 0) v3o v4e) (fun _ _=>⟨rfl,rfl⟩) (fun z=>by(intro h;cases h)) (fun _ _=>rfl) (fun x=>by kernel_rfl)
theorem wr0:vae Try.prog 113 wl0:=
 vaw G67_ok follows (Try.f113.body.getD .skip) Try.func113 (by kernel_rfl) fun p q=>⟨vpb,(n02n_p _ _).p.map _,by rw [wdu];kernel_rfl,vab (ids:=[6000001,0]) (by kernel_rfl) (by kernel_rfl) ⟨vum,⟨wi7,trivial⟩⟩⟩
def G68:Glob:=G67.add 113 wl0
theorem G68_ok:GlobOk Try.prog G68:=G67_ok.add ⟨Try.f113,Try.func113,by kernel_rfl,by kernel_rfl⟩ wr0
def vh3:q19T→List AV:=fun x=>[.bp 0 0,.bp 1 0,.bp 2 0,.bool x.1,.bp 3 0]
def vh4:q19T→St:=fun x=>let xh:=x.2.2.2.2.2.2.2.2;let xhh:=xh.2.2.2.2.2.2.2.2;let xhhh:=xhh.2.2.2.2.2.2.2.2;[.box [.i x.2.1,.i x.2.2.1,.i x.2.2.2.1,.i x.2.2.2.2.1,.lst tRange x.2.2.2.2.2.1,.lst tWrite x.2.2.2.2.2.2.1,.bool x.2.2.2.2.2.2.2.1,.str xh.1],.box [.str xh.2.1,.str xh.2.2.1,.bool xh.2.2.2.1],.box [.i xh.2.2.2.2.1,.i xh.2.2.2.2.2.1,.i xh.2.2.2.2.2.2.1,.i xh.2.2.2.2.2.2.2.1,.own 4,.own 5,.bool xhh.1,.str xhh.2.1],.box [.i xhh.2.2.1,.i xhh.2.2.2.1,.i xhh.2.2.2.2.1,.i xhh.2.2.2.2.2.1,.own 6,.own 7,.bool xhh.2.2.2.2.2.2.1,.str xhh.2.2.2.2.2.2.2.1],.arr tRange xhhh.1,.arr tWrite xhhh.2.1,.arr tRange xhhh.2.2.1,.arr tWrite xhhh.2.2.2]
def vj2:q20T→Out×List AV×St:=fun z=>let zh:=z.2.2.2.2.2.2.2.2;let zhh:=zh.2.2.2.2.2.2.2.2;let zhhh:=zhh.2.2.2.2.2.2.2.2;(.ret,[.bp 0 0,.bp 1 0,.bp 2 0,.bool z.1,.bp 3 0],[.box [.i z.2.1,.i z.2.2.1,.i z.2.2.2.1,.i z.2.2.2.2.1,.lst tRange z.2.2.2.2.2.1,.lst tWrite z.2.2.2.2.2.2.1,.bool z.2.2.2.2.2.2.2.1,.str zh.1],.box [.str zh.2.1,.str zh.2.2.1,.bool zh.2.2.2.1],.box [.i zh.2.2.2.2.1,.i zh.2.2.2.2.2.1,.i zh.2.2.2.2.2.2.1,.i zh.2.2.2.2.2.2.2.1,.own 4,.own 5,.bool zhh.1,.str zhh.2.1],.box [.i zhh.2.2.1,.i zhh.2.2.2.1,.i zhh.2.2.2.2.1,.i zhh.2.2.2.2.2.1,.own 4,.own 5,.bool zhh.2.2.2.2.2.2.1,.str zhh.2.2.2.2.2.2.2.1],.arr tRange zhhh.1,.arr tWrite zhhh.2])
def vv0:Nat→Option LoopSpec
 |5000004=>some (ctS [2,3,4,5,6] [none,none,none,none,none,none,none,none,none,none,none,none,none,none,none,none,none,none,none,none,some tRange,some tWrite] [.bp 0 0,.bp 1 0,.bp 2 0,.bool,.bp 3 0] [.box [.i,.i,.i,.i,.lst tRange,.lst tWrite,.bool,.str],.box [.str,.str,.bool],.box [.i,.i,.i,.i,.own 4,.own 5,.bool,.str],.box [.i,.i,.i,.i,.own 6,.own 7,.bool,.str],.arr tRange,.arr tWrite,.arr tRange,.arr tWrite] vdt (fun p q=>(p.2.2.2.1,q.1.1,q.1.2.1,q.1.2.2.1,q.1.2.2.2.1,q.1.2.2.2.2.1,q.1.2.2.2.2.2.1,q.1.2.2.2.2.2.2.1,q.1.2.2.2.2.2.2.2.1,q.2.1.1,q.2.1.2.1,q.2.1.2.2.1,q.2.2.1.1,q.2.2.1.2.1,q.2.2.1.2.2.1,q.2.2.1.2.2.2.1,q.2.2.1.2.2.2.2.2.2.1,q.2.2.1.2.2.2.2.2.2.2.1,q.2.2.2.1.1,q.2.2.2.1.2.1,q.2.2.2.1.2.2.1,q.2.2.2.1.2.2.2.1,q.2.2.2.1.2.2.2.2.2.2.1,q.2.2.2.1.2.2.2.2.2.2.2.1,q.2.2.2.2.1,q.2.2.2.2.2.1,q.2.2.2.2.2.2.1,q.2.2.2.2.2.2.2.1)) (fun k=>(Sum.elim (onE vj2 k) (onE (exZ .ret vh3 vh4) k))))
 |_=>none
theorem vtv:CtAt G68 ⟨0,34,vv0⟩ Try.f39 5000004:=
 vcv rfl (fun x=>(n13n_jp5000004 x).p) vh3 vh4 (Sum.elim (vj2) ((exZ .ret vh3 vh4))) (fun _ _=>⟨rfl,rfl⟩) (fun k z=>by rcases z with z|z<;>rfl) (fun x=>by kernel_rfl)
theorem wpg:vae Try.prog 39 wkp:=
 vaw G68_ok follows (Try.f39.body.getD .skip) Try.func39 (by kernel_rfl) fun p q=>⟨vv0,(n13n_p _ _).p.map _,by rw [wdl];kernel_rfl,vab (ids:=[5000004]) (by kernel_rfl) (by kernel_rfl) ⟨vtv,trivial⟩⟩
def G69:Glob:=G68.add 39 wkp
theorem G69_ok:GlobOk Try.prog G69:=G68_ok.add ⟨Try.f39,Try.func39,by kernel_rfl,by kernel_rfl⟩ wpg
def vhd:q19T→List AV:=fun x=>[.bp 0 0,.bp 1 0,.bp 2 0,.bool x.1,.bp 3 0]
def vif:q19T→St:=fun x=>let xh:=x.2.2.2.2.2.2.2.2;let xhh:=xh.2.2.2.2.2.2.2.2;let xhhh:=xhh.2.2.2.2.2.2.2.2;[.box [.i x.2.1,.i x.2.2.1,.i x.2.2.2.1,.i x.2.2.2.2.1,.lst tRange x.2.2.2.2.2.1,.lst tWrite x.2.2.2.2.2.2.1,.bool x.2.2.2.2.2.2.2.1,.str xh.1],.box [.str xh.2.1,.str xh.2.2.1,.bool xh.2.2.2.1],.box [.i xh.2.2.2.2.1,.i xh.2.2.2.2.2.1,.i xh.2.2.2.2.2.2.1,.i xh.2.2.2.2.2.2.2.1,.own 4,.own 5,.bool xhh.1,.str xhh.2.1],.box [.i xhh.2.2.1,.i xhh.2.2.2.1,.i xhh.2.2.2.2.1,.i xhh.2.2.2.2.2.1,.own 6,.own 7,.bool xhh.2.2.2.2.2.2.1,.str xhh.2.2.2.2.2.2.2.1],.arr tRange xhhh.1,.arr tWrite xhhh.2.1,.arr tRange xhhh.2.2.1,.arr tWrite xhhh.2.2.2]
def vlf:q20T→Out×List AV×St:=fun z=>let zh:=z.2.2.2.2.2.2.2.2;let zhh:=zh.2.2.2.2.2.2.2.2;let zhhh:=zhh.2.2.2.2.2.2.2.2;(.ret,[.bp 0 0,.bp 1 0,.bp 2 0,.bool z.1,.bp 3 0],[.box [.i z.2.1,.i z.2.2.1,.i z.2.2.2.1,.i z.2.2.2.2.1,.lst tRange z.2.2.2.2.2.1,.lst tWrite z.2.2.2.2.2.2.1,.bool z.2.2.2.2.2.2.2.1,.str zh.1],.box [.str zh.2.1,.str zh.2.2.1,.bool zh.2.2.2.1],.box [.i zh.2.2.2.2.1,.i zh.2.2.2.2.2.1,.i zh.2.2.2.2.2.2.1,.i zh.2.2.2.2.2.2.2.1,.own 4,.own 5,.bool zhh.1,.str zhh.2.1],.box [.i zhh.2.2.1,.i zhh.2.2.2.1,.i zhh.2.2.2.2.1,.i zhh.2.2.2.2.2.1,.own 4,.own 5,.bool zhh.2.2.2.2.2.2.1,.str zhh.2.2.2.2.2.2.2.1],.arr tRange zhhh.1,.arr tWrite zhhh.2])
def vwf:Nat→Option LoopSpec
 |5000004=>some (ctS [2,3,4,5,6] [none,none,none,none,none,none,none,none,none,none,none,none,none,none,none,none,none,none,none,none,some tRange,some tWrite] [.bp 0 0,.bp 1 0,.bp 2 0,.bool,.bp 3 0] [.box [.i,.i,.i,.i,.lst tRange,.lst tWrite,.bool,.str],.box [.str,.str,.bool],.box [.i,.i,.i,.i,.own 4,.own 5,.bool,.str],.box [.i,.i,.i,.i,.own 6,.own 7,.bool,.str],.arr tRange,.arr tWrite,.arr tRange,.arr tWrite] vdh (fun p q=>(p.2.2.2.1,q.1.1,q.1.2.1,q.1.2.2.1,q.1.2.2.2.1,q.1.2.2.2.2.1,q.1.2.2.2.2.2.1,q.1.2.2.2.2.2.2.1,q.1.2.2.2.2.2.2.2.1,q.2.1.1,q.2.1.2.1,q.2.1.2.2.1,q.2.2.1.1,q.2.2.1.2.1,q.2.2.1.2.2.1,q.2.2.1.2.2.2.1,q.2.2.1.2.2.2.2.2.2.1,q.2.2.1.2.2.2.2.2.2.2.1,q.2.2.2.1.1,q.2.2.2.1.2.1,q.2.2.2.1.2.2.1,q.2.2.2.1.2.2.2.1,q.2.2.2.1.2.2.2.2.2.2.1,q.2.2.2.1.2.2.2.2.2.2.2.1,q.2.2.2.2.1,q.2.2.2.2.2.1,q.2.2.2.2.2.2.1,q.2.2.2.2.2.2.2.1)) (fun k=>(Sum.elim (onE vlf k) (onE (exZ .ret vhd vif) k))))
 |_=>none
theorem vud:CtAt G69.shallow ⟨0,35,vwf⟩ Try.f40 5000004:=
 vcv rfl (fun x=>(n61n_jp5000004 x).p) vhd vif (Sum.elim (vlf) ((exZ .ret vhd vif))) (fun _ _=>⟨rfl,rfl⟩) (fun k z=>by rcases z with z|z<;>rfl) (fun x=>by kernel_rfl)
theorem wrz:vae Try.prog 40 wkq:=
 vaw G69_ok.shallow follows (Try.f40.body.getD .skip) Try.func40 (by kernel_rfl) fun p q=>⟨vwf,(n61n_p _ _).p.map _,by rw [wcf];kernel_rfl,vab (ids:=[5000004]) (by kernel_rfl) (by kernel_rfl) ⟨vud,trivial⟩⟩
def G70:Glob:=G69.add 40 wkq
theorem G70_ok:GlobOk Try.prog G70:=G69_ok.add ⟨Try.f40,Try.func40,by kernel_rfl,by kernel_rfl⟩ wrz
def vhq:q14T→List AV:=fun x=>[.lst tWrite x.1,.i x.2.1,.own 0,.i x.2.2.1,.bp 1 0,.own 2,.i x.2.2.2.1]
def vhs:q14T→St:=fun x=>let xh:=x.2.2.2.2.2.2.2.2;[.arr tVersion x.2.2.2.2.1,.box [.str x.2.2.2.2.2.1,.str x.2.2.2.2.2.2.1,.bool x.2.2.2.2.2.2.2.1,.i xh.1],.arr tVersion xh.2]
def v3v:q14T→List AV:=fun x=>[.lst tWrite x.1,.i x.2.1,.own 0,.i x.2.2.1,.bp 1 0,.own 2,.i x.2.2.2.1]
def v4z:q14T→St:=fun x=>let xh:=x.2.2.2.2.2.2.2.2;[.arr tVersion x.2.2.2.2.1,.box [.str x.2.2.2.2.2.1,.str x.2.2.2.2.2.2.1,.bool x.2.2.2.2.2.2.2.1,.i xh.1],.arr tVersion xh.2]
def v5m:q13T→List AV:=fun x=>[.lst tWrite x.1,.i x.2.1,.own 0,.i x.2.2.1]
def v5a:q13T→St:=fun x=>[.arr tVersion x.2.2.2]
def vmd:Nat→Option LoopSpec
 |6000003=>some (ctS [1,2,7,8,9,10,11] [] [.lst tWrite,.i,.own 0,.i,.bp 1 0,.own 2,.i] [.arr tVersion,.box [.str,.str,.bool,.i],.arr tVersion] vdq (fun p q=>(p.1,p.2.1,p.2.2.2.1,p.2.2.2.2.2.2.1,q.1,q.2.1.1,q.2.1.2.1,q.2.1.2.2.1,q.2.1.2.2.2.1,q.2.2.1)) (fun k=>(onE (exZ .norm vhq vhs) k)))
 |2=>some (lpS [1,2,7,8,9,10,11] [] [.lst tWrite,.i,.own 0,.i,.bp 1 0,.own 2,.i] [.arr tVersion,.box [.str,.str,.bool,.i],.arr tVersion] vm9 (fun p q=>(p.1,p.2.1,p.2.2.2.1,p.2.2.2.2.2.2.1,q.1,q.2.1.1,q.2.1.2.1,q.2.1.2.2.1,q.2.1.2.2.2.1,q.2.2.1)) (fun k=>(onE (exZ (.exit 2) v3v v4z) k)))
 |0=>some (lpS [1,2,7,8] [] [.lst tWrite,.i,.own 0,.i] [.arr tVersion] vnp (fun p q=>(p.1,p.2.1,p.2.2.2.1,q.1)) (fun k=>(onE (exZ (.exit 0) v5m v5a) k)))
 |2000008=>some ⟨[0,2,4,6,8,10,12,14,16,18,20,22,24,26,28,30,32,34,36,38,40,42,44,46,48,50,52,54,56,58,60,62,64,66],[],fun _ _ _=>none⟩
 |_=>none
theorem vux:CtAt G70.shallow ⟨0,93,vmd⟩ Try.f225 6000003:=
 vcv rfl (fun x=>(n51n_jp6000003 x).p) vhq vhs (exZ .norm vhq vhs) (fun _ _=>⟨rfl,rfl⟩) (fun _ _=>rfl) (fun x=>by kernel_rfl)
theorem wkb:LpAt G70.shallow ⟨0,93,vmd⟩ Try.f225 2:=
 vay rfl (fun x=>(n51n_bp2 x).p) v3v v4z (exZ (.exit 2) v3v v4z) (fun _ _=>⟨rfl,rfl⟩) (fun z=>by(intro h;cases h)) (fun _ _=>rfl) (fun x=>by kernel_rfl)
theorem whq:LpAt G70.shallow ⟨0,93,vmd⟩ Try.f225 0:=
 vay rfl (fun x=>(n51n_bp0 x).p) v5m v5a (exZ (.exit 0) v5m v5a) (fun _ _=>⟨rfl,rfl⟩) (fun z=>by(intro h;cases h)) (fun _ _=>rfl) (fun x=>by kernel_rfl)
theorem wrx:vae Try.prog 225 wks:=
 vaw G70_ok.shallow follows (Try.f225.body.getD .skip) Try.func225 (by kernel_rfl) fun p q=>⟨vmd,(n51n_p _ _ _).p.map _,by rw [wgr];kernel_rfl,vab (ids:=[6000003,2,0]) (by kernel_rfl) (by kernel_rfl) ⟨vux,⟨wkb,⟨whq,trivial⟩⟩⟩⟩
def G71:Glob:=G70.add 225 wks
theorem G71_ok:GlobOk Try.prog G71:=G70_ok.add ⟨Try.f225,Try.func225,by kernel_rfl,by kernel_rfl⟩ wrx
def v5b:q40T→List AV:=fun x=>[.bp 0 0,.own 1,.i x.1]
def v5t:q40T→St:=fun x=>[.box [.lst (.int .u8) x.2.1,.i x.2.2.1,.i x.2.2.2.1],.arr tVersion x.2.2.2.2]
def vwz:Nat→Option LoopSpec
 |0=>some (lpS [0,3,4] [] [.bp 0 0,.own 1,.i] [.box [.lst (.int .u8),.i,.i],.arr tVersion] vnd (fun p q=>(p.2.2.1,q.1.1,q.1.2.1,q.1.2.2.1,q.2.1)) (fun k=>(onE (exZ (.exit 0) v5b v5t) k)))
 |_=>none
theorem wik:LpAt G71.shallow ⟨1,19,vwz⟩ Try.f182 0:=
 vay rfl (fun x=>(n82n_bp0 x).p) v5b v5t (exZ (.exit 0) v5b v5t) (fun _ _=>⟨rfl,rfl⟩) (fun z=>by(intro h;cases h)) (fun _ _=>rfl) (fun x=>by kernel_rfl)
theorem wqq:vae Try.prog 182 wl1:=
 vaw G71_ok.shallow follows (Try.f182.body.getD .skip) Try.func182 (by kernel_rfl) fun p q=>⟨vwz,(n82n_p _ _ _).p.map _,by rw [wfw];kernel_rfl,vab (ids:=[0]) (by kernel_rfl) (by kernel_rfl) ⟨wik,trivial⟩⟩
def G72:Glob:=G71.add 182 wl1
theorem G72_ok:GlobOk Try.prog G72:=G71_ok.add ⟨Try.f182,Try.func182,by kernel_rfl,by kernel_rfl⟩ wqq
def wam:Nat→Option LoopSpec
 |_=>none
theorem wsc:vae Try.prog 118 wml:=
 vaw G72_ok.shallow follows (Try.f118.body.getD .skip) Try.func118 (by kernel_rfl) fun p q=>⟨wam,(n80n_p _ _ _).p.map _,by rw [wcm];kernel_rfl,vab (ids:=[]) (by kernel_rfl) (by kernel_rfl) trivial⟩
def G73:Glob:=G72.add 118 wml
theorem G73_ok:GlobOk Try.prog G73:=G72_ok.add ⟨Try.f118,Try.func118,by kernel_rfl,by kernel_rfl⟩ wsc
def wau:Nat→Option LoopSpec
 |1000004=>some ⟨[1],[],fun _ _ _=>none⟩
 |_=>none
theorem wrj:vae Try.prog 41 wmc:=
 vaw G73_ok.shallow follows (Try.f41.body.getD .skip) Try.func41 (by kernel_rfl) fun p q=>⟨wau,(n44n_p _).p.map _,by rw [wc4];kernel_rfl,vab (ids:=[]) (by kernel_rfl) (by kernel_rfl) trivial⟩
def G74:Glob:=G73.add 41 wmc
theorem G74_ok:GlobOk Try.prog G74:=G73_ok.add ⟨Try.f41,Try.func41,by kernel_rfl,by kernel_rfl⟩ wrj
def wa2:Nat→Option LoopSpec
 |_=>none
theorem wrn:vae Try.prog 184 wmd:=
 vaw G74_ok follows (Try.f184.body.getD .skip) Try.func184 (by kernel_rfl) fun p q=>⟨wa2,(n19n_p _ _).p.map _,by rw [wda];kernel_rfl,vab (ids:=[]) (by kernel_rfl) (by kernel_rfl) trivial⟩
def G75:Glob:=G74.add 184 wmd
theorem G75_ok:GlobOk Try.prog G75:=G74_ok.add ⟨Try.f184,Try.func184,by kernel_rfl,by kernel_rfl⟩ wrn
def vsa:q15T→List AV:=fun x=>[.lst tWrite x.1,.fn 184 [.bp 0 0],.i x.2.1,.i x.2.2.1,.i x.2.2.2.1]
def vrb:q15T→St:=fun x=>[.box [.str x.2.2.2.2]]
def vve:Nat→Option LoopSpec
 |0=>some (lpS [0,1,4,7,8] [] [.lst tWrite,.fn 184 [.bp 0 0],.i,.i,.i] [.box [.str]] vlc (fun p q=>(p.1,p.2.2.1,p.2.2.2.1,p.2.2.2.2.1,q.1.1)) (fun k=>(Sum.elim (onE (exZ .ret vsa vrb) k) (onE (exZ (.exit 0) vsa vrb) k))))
 |_=>none
theorem whg:LpAt G75 ⟨1,19,vve⟩ Try.f183 0:=
 vay rfl (fun x=>(n41n_bp0 x).p) vsa vrb (Sum.elim ((exZ .ret vsa vrb)) ((exZ (.exit 0) vsa vrb))) (fun _ _=>⟨rfl,rfl⟩) (fun z=>by rcases z with z|z<;>(intro h;cases h)) (fun k z=>by rcases z with z|z<;>rfl) (fun x=>by kernel_rfl)
theorem vi4:vae Try.prog 183 ved:=
 vaw G75_ok follows (Try.f183.body.getD .skip) Try.func183 (by kernel_rfl) fun p q=>⟨vve,(n41n_p _ _).p.map _,by rw [wf1];kernel_rfl,vab (ids:=[0]) (by kernel_rfl) (by kernel_rfl) ⟨whg,trivial⟩⟩
def G76:Glob:=G75.add 183 ved
theorem G76_ok:GlobOk Try.prog G76:=G75_ok.add ⟨Try.f183,Try.func183,by kernel_rfl,by kernel_rfl⟩ vi4
def wak:Nat→Option LoopSpec
 |_=>none
theorem wrh:vae Try.prog 119 wms:=
 vaw G76_ok follows (Try.f119.body.getD .skip) Try.func119 (by kernel_rfl) fun p q=>⟨wak,(n18n_p _ _).p.map _,by rw [wev];kernel_rfl,vab (ids:=[]) (by kernel_rfl) (by kernel_rfl) trivial⟩
def G77:Glob:=G76.add 119 wms
theorem G77_ok:GlobOk Try.prog G77:=G76_ok.add ⟨Try.f119,Try.func119,by kernel_rfl,by kernel_rfl⟩ wrh
def v4o:q8T→List AV:=fun x=>[.lst tVersion x.1,.str x.2.1,.i x.2.2.1,.i x.2.2.2.1,.lst tVersion x.2.2.2.2.1,.i x.2.2.2.2.2.1,.i x.2.2.2.2.2.2]
def v3t:q8T→St:=fun x=>[]
def vwb:Nat→Option LoopSpec
 |0=>some (lpS [0,1,2,7,10,11,12] [] [.lst tVersion,.str,.i,.i,.lst tVersion,.i,.i] [] vk2 (fun p q=>(p.1,p.2.1,p.2.2.1,p.2.2.2.1,p.2.2.2.2.1,p.2.2.2.2.2.1,p.2.2.2.2.2.2.1)) (fun k=>(onE (exZ (.exit 0) v4o v3t) k)))
 |2000005=>some ⟨[0,2,4,6,8,10,12,14,16,18,20,22,24,26,28,30,32,34,36,38,40,42,44,46],[],fun _ _ _=>none⟩
 |_=>none
theorem wjm:LpAt G77 ⟨0,44,vwb⟩ Try.f185 0:=
 vay rfl (fun x=>(n17n_bp0 x).p) v4o v3t (exZ (.exit 0) v4o v3t) (fun _ _=>⟨rfl,rfl⟩) (fun z=>by(intro h;cases h)) (fun _ _=>rfl) (fun x=>by kernel_rfl)
theorem wsg:vae Try.prog 185 wm2:=
 vaw G77_ok follows (Try.f185.body.getD .skip) Try.func185 (by kernel_rfl) fun p q=>⟨vwb,(n17n_p _ _ _).p.map _,by rw [wfj];kernel_rfl,vab (ids:=[0]) (by kernel_rfl) (by kernel_rfl) ⟨wjm,trivial⟩⟩
def G78:Glob:=G77.add 185 wm2
theorem G78_ok:GlobOk Try.prog G78:=G77_ok.add ⟨Try.f185,Try.func185,by kernel_rfl,by kernel_rfl⟩ wsg
def wbg:Nat→Option LoopSpec
 |_=>none
theorem wrk:vae Try.prog 120 wmm:=
 vaw G78_ok follows (Try.f120.body.getD .skip) Try.func120 (by kernel_rfl) fun p q=>⟨wbg,(n08n_p _ _ _).p.map _,by rw [wfd];kernel_rfl,vab (ids:=[]) (by kernel_rfl) (by kernel_rfl) trivial⟩
def G79:Glob:=G78.add 120 wmm
theorem G79_ok:GlobOk Try.prog G79:=G78_ok.add ⟨Try.f120,Try.func120,by kernel_rfl,by kernel_rfl⟩ wrk
def wbs:Nat→Option LoopSpec
 |_=>none
theorem wri:vae Try.prog 42 wl3:=
 vaw G79_ok follows (Try.f42.body.getD .skip) Try.func42 (by kernel_rfl) fun p q=>⟨wbs,(n01n_p _ _ _).p.map _,by rw [wc9];kernel_rfl,vab (ids:=[]) (by kernel_rfl) (by kernel_rfl) trivial⟩
def G80:Glob:=G79.add 42 wl3
theorem G80_ok:GlobOk Try.prog G80:=G79_ok.add ⟨Try.f42,Try.func42,by kernel_rfl,by kernel_rfl⟩ wri
def v4k:q9T→List AV:=fun x=>[.lst tVersion x.1,.str x.2.1,.i x.2.2.1,.i x.2.2.2.1,.i x.2.2.2.2]
def v3a:q9T→St:=fun x=>[]
def vvf:Nat→Option LoopSpec
 |0=>some (lpS [0,1,2,7,8] [] [.lst tVersion,.str,.i,.i,.i] [] vlg (fun p q=>(p.1,p.2.1,p.2.2.1,p.2.2.2.1,p.2.2.2.2.1)) (fun k=>(onE (exZ (.exit 0) v4k v3a) k)))
 |2000005=>some ⟨[0,2,4,6,8,10,12,14,16,18,20,22,24,26,28,30,32,34,36,38,40,42,44,46,48,50,52,54,56,58,60,62,64],[],fun _ _ _=>none⟩
 |_=>none
theorem wh3:LpAt G80.shallow ⟨0,50,vvf⟩ Try.f186 0:=
 vay rfl (fun x=>(n81n_bp0 x).p) v4k v3a (exZ (.exit 0) v4k v3a) (fun _ _=>⟨rfl,rfl⟩) (fun z=>by(intro h;cases h)) (fun _ _=>rfl) (fun x=>by kernel_rfl)
theorem wo3:vae Try.prog 186 wl4:=
 vaw G80_ok.shallow follows (Try.f186.body.getD .skip) Try.func186 (by kernel_rfl) fun p q=>⟨vvf,(n81n_p _ _ _).p.map _,by rw [wbx];kernel_rfl,vab (ids:=[0]) (by kernel_rfl) (by kernel_rfl) ⟨wh3,trivial⟩⟩
def G81:Glob:=G80.add 186 wl4
theorem G81_ok:GlobOk Try.prog G81:=G80_ok.add ⟨Try.f186,Try.func186,by kernel_rfl,by kernel_rfl⟩ wo3
def wax:Nat→Option LoopSpec
 |_=>none
theorem wqd:vae Try.prog 121 wlh:=
 vaw G81_ok.shallow follows (Try.f121.body.getD .skip) Try.func121 (by kernel_rfl) fun p q=>⟨wax,(n58n_p _ _ _).p.map _,by rw [wfm];kernel_rfl,vab (ids:=[]) (by kernel_rfl) (by kernel_rfl) trivial⟩
def G82:Glob:=G81.add 121 wlh
theorem G82_ok:GlobOk Try.prog G82:=G81_ok.add ⟨Try.f121,Try.func121,by kernel_rfl,by kernel_rfl⟩ wqd
def vtj:q7T→List AV:=fun x=>[.lst tVersion x.1,.str x.2.1,.bp 0 0,.str x.2.2.1,.bool x.2.2.2.1,.i x.2.2.2.2.1]
def vri:q7T→St:=fun x=>let xh:=x.2.2.2.2.2.2.2.2;[.box [.i x.2.2.2.2.2.1,.i x.2.2.2.2.2.2.1,.i x.2.2.2.2.2.2.2.1,.i xh.1,.lst tRange xh.2.1,.lst tWrite xh.2.2.1,.bool xh.2.2.2.1,.str xh.2.2.2.2]]
def vvc:Nat→Option LoopSpec
 |0=>some (lpS [1,2,3,6,7,8] [] [.lst tVersion,.str,.bp 0 0,.str,.bool,.i] [.box [.i,.i,.i,.i,.lst tRange,.lst tWrite,.bool,.str]] vkc (fun p q=>(p.1,p.2.1,p.2.2.2.1,p.2.2.2.2.1,p.2.2.2.2.2.1,q.1.1,q.1.2.1,q.1.2.2.1,q.1.2.2.2.1,q.1.2.2.2.2.1,q.1.2.2.2.2.2.1,q.1.2.2.2.2.2.2.1,q.1.2.2.2.2.2.2.2.1)) (fun k=>(Sum.elim (onE (exZ .ret vtj vri) k) (onE (exZ (.exit 0) vtj vri) k))))
 |_=>none
theorem wip:LpAt G82.shallow ⟨0,43,vvc⟩ Try.f43 0:=
 vay rfl (fun x=>(n50n_bp0 x).p) vtj vri (Sum.elim ((exZ .ret vtj vri)) ((exZ (.exit 0) vtj vri))) (fun _ _=>⟨rfl,rfl⟩) (fun z=>by rcases z with z|z<;>(intro h;cases h)) (fun k z=>by rcases z with z|z<;>rfl) (fun x=>by kernel_rfl)
theorem wo7:vae Try.prog 43 wk0:=
 vaw G82_ok.shallow follows (Try.f43.body.getD .skip) Try.func43 (by kernel_rfl) fun p q=>⟨vvc,(n50n_p _ _ _).p.map _,by rw [wdh];kernel_rfl,vab (ids:=[0]) (by kernel_rfl) (by kernel_rfl) ⟨wip,trivial⟩⟩
def G83:Glob:=G82.add 43 wk0
theorem G83_ok:GlobOk Try.prog G83:=G82_ok.add ⟨Try.f43,Try.func43,by kernel_rfl,by kernel_rfl⟩ wo7
def vrj:q10T→List AV:=fun x=>[.lst tWrite x.1,.lst tWrite x.2.1,.bool x.2.2.1,.i x.2.2.2]
def vsd:q10T→St:=fun x=>[]
def vxa:Nat→Option LoopSpec
 |0=>some (lpS [0,1,4,5] [] [.lst tWrite,.lst tWrite,.bool,.i] [] vly (fun p q=>(p.1,p.2.1,p.2.2.1,p.2.2.2.1)) (fun k=>(Sum.elim (onE (exZ .ret vrj vsd) k) (onE (exZ (.exit 0) vrj vsd) k))))
 |2000006=>some ⟨[0,2,4,6,8,10,12,14,16],[],fun _ _ _=>none⟩
 |_=>none
theorem wjj:LpAt G83 ⟨0,26,vxa⟩ Try.f127 0:=
 vay rfl (fun x=>(n39n_bp0 x).p) vrj vsd (Sum.elim ((exZ .ret vrj vsd)) ((exZ (.exit 0) vrj vsd))) (fun _ _=>⟨rfl,rfl⟩) (fun z=>by rcases z with z|z<;>(intro h;cases h)) (fun k z=>by rcases z with z|z<;>rfl) (fun x=>by kernel_rfl)
theorem wr3:vae Try.prog 127 wkt:=
 vaw G83_ok follows (Try.f127.body.getD .skip) Try.func127 (by kernel_rfl) fun p q=>⟨vxa,(n39n_p _ _).p.map _,by rw [wb0];kernel_rfl,vab (ids:=[0]) (by kernel_rfl) (by kernel_rfl) ⟨wjj,trivial⟩⟩
def G84:Glob:=G83.add 127 wkt
theorem G84_ok:GlobOk Try.prog G84:=G83_ok.add ⟨Try.f127,Try.func127,by kernel_rfl,by kernel_rfl⟩ wr3
def vru:q28T→List AV:=fun x=>[.bp 0 0,.bp 1 0,.bool x.1,.i x.2.1]
def vsw:q28T→St:=fun x=>let xh:=x.2.2.2.2.2.2.2.2;let xhh:=xh.2.2.2.2.2.2.2.2;[.box [.i x.2.2.1,.i x.2.2.2.1,.i x.2.2.2.2.1,.i x.2.2.2.2.2.1,.lst tRange x.2.2.2.2.2.2.1,.lst tWrite x.2.2.2.2.2.2.2.1,.bool xh.1,.str xh.2.1],.box [.i xh.2.2.1,.i xh.2.2.2.1,.i xh.2.2.2.2.1,.i xh.2.2.2.2.2.1,.lst tRange xh.2.2.2.2.2.2.1,.lst tWrite xh.2.2.2.2.2.2.2.1,.bool xhh.1,.str xhh.2]]
def vhu:q23T→List AV:=fun x=>[.bp 0 0,.bp 1 0,.bool x.1]
def via:q23T→St:=fun x=>let xh:=x.2.2.2.2.2.2.2.2;[.box [.i x.2.1,.i x.2.2.1,.i x.2.2.2.1,.i x.2.2.2.2.1,.lst tRange x.2.2.2.2.2.1,.lst tWrite x.2.2.2.2.2.2.1,.bool x.2.2.2.2.2.2.2.1,.str xh.1],.box [.i xh.2.1,.i xh.2.2.1,.i xh.2.2.2.1,.i xh.2.2.2.2.1,.lst tRange xh.2.2.2.2.2.1,.lst tWrite xh.2.2.2.2.2.2.1,.bool xh.2.2.2.2.2.2.2.1,.str xh.2.2.2.2.2.2.2.2]]
def vpk:Nat→Option LoopSpec
 |0=>some (lpS [2,3,4,5] [] [.bp 0 0,.bp 1 0,.bool,.i] [.box [.i,.i,.i,.i,.lst tRange,.lst tWrite,.bool,.str],.box [.i,.i,.i,.i,.lst tRange,.lst tWrite,.bool,.str]] vlh (fun p q=>(p.2.2.1,p.2.2.2.1,q.1.1,q.1.2.1,q.1.2.2.1,q.1.2.2.2.1,q.1.2.2.2.2.1,q.1.2.2.2.2.2.1,q.1.2.2.2.2.2.2.1,q.1.2.2.2.2.2.2.2.1,q.2.1.1,q.2.1.2.1,q.2.1.2.2.1,q.2.1.2.2.2.1,q.2.1.2.2.2.2.1,q.2.1.2.2.2.2.2.1,q.2.1.2.2.2.2.2.2.1,q.2.1.2.2.2.2.2.2.2.1)) (fun k=>(Sum.elim (onE (exZ .ret vru vsw) k) (onE (exZ (.exit 0) vru vsw) k))))
 |5000003=>some (ctS [2,3,4] [] [.bp 0 0,.bp 1 0,.bool] [.box [.i,.i,.i,.i,.lst tRange,.lst tWrite,.bool,.str],.box [.i,.i,.i,.i,.lst tRange,.lst tWrite,.bool,.str]] vdg (fun p q=>(p.2.2.1,q.1.1,q.1.2.1,q.1.2.2.1,q.1.2.2.2.1,q.1.2.2.2.2.1,q.1.2.2.2.2.2.1,q.1.2.2.2.2.2.2.1,q.1.2.2.2.2.2.2.2.1,q.2.1.1,q.2.1.2.1,q.2.1.2.2.1,q.2.1.2.2.2.1,q.2.1.2.2.2.2.1,q.2.1.2.2.2.2.2.1,q.2.1.2.2.2.2.2.2.1,q.2.1.2.2.2.2.2.2.2.1)) (fun k=>(onE (exZ .ret vhu via) k)))
 |2000006=>some ⟨[0,2,4,6,8,10,12,14,16,18,20],[],fun _ _ _=>none⟩
 |_=>none
theorem wg6:LpAt G84 ⟨0,81,vpk⟩ Try.f46 0:=
 vay rfl (fun x=>(n38n_bp0 x).p) vru vsw (Sum.elim ((exZ .ret vru vsw)) ((exZ (.exit 0) vru vsw))) (fun _ _=>⟨rfl,rfl⟩) (fun z=>by rcases z with z|z<;>(intro h;cases h)) (fun k z=>by rcases z with z|z<;>rfl) (fun x=>by kernel_rfl)
theorem vuv:CtAt G84 ⟨0,81,vpk⟩ Try.f46 5000003:=
 vcv rfl (fun x=>(n38n_jp5000003 x).p) vhu via (exZ .ret vhu via) (fun _ _=>⟨rfl,rfl⟩) (fun _ _=>rfl) (fun x=>by kernel_rfl)
theorem wq7:vae Try.prog 46 wl6:=
 vaw G84_ok follows (Try.f46.body.getD .skip) Try.func46 (by kernel_rfl) fun p q=>⟨vpk,(n38n_p _ _).p.map _,by rw [wgx];kernel_rfl,vab (ids:=[0,5000003]) (by kernel_rfl) (by kernel_rfl) ⟨wg6,⟨vuv,trivial⟩⟩⟩
def G85:Glob:=G84.add 46 wl6
theorem G85_ok:GlobOk Try.prog G85:=G84_ok.add ⟨Try.f46,Try.func46,by kernel_rfl,by kernel_rfl⟩ wq7
def wbn:Nat→Option LoopSpec
 |_=>none
theorem wsr:vae Try.prog 47 wld:=
 vaw G85_ok follows (Try.f47.body.getD .skip) Try.func47 (by kernel_rfl) fun p q=>⟨wbn,(n36n_p _ _).p.map _,by rw [wed];kernel_rfl,vab (ids:=[]) (by kernel_rfl) (by kernel_rfl) trivial⟩
def G86:Glob:=G85.add 47 wld
theorem G86_ok:GlobOk Try.prog G86:=G85_ok.add ⟨Try.f47,Try.func47,by kernel_rfl,by kernel_rfl⟩ wsr
def wat:Nat→Option LoopSpec
 |_=>none
theorem wma:vae Try.prog 5 wd4:=
 vaw G86_ok follows (Try.f5.body.getD .skip) Try.func5 (by kernel_rfl) fun p q=>⟨wat,(n35n_p _).p.map _,by rw [wf8];kernel_rfl,vab (ids:=[]) (by kernel_rfl) (by kernel_rfl) trivial⟩
def G87:Glob:=G86.add 5 wd4
theorem ws1:GlobOk Try.prog G87:=G86_ok.add ⟨Try.f5,Try.func5,by kernel_rfl,by kernel_rfl⟩ wma
end
end Go.VE
