/- Each function told by its native program; written by gen.py. -/
import Derived.Test.YtaaoeehlfihjdaaGreatFnBothS0
namespace Go.VE
open Go.Proofs Go.Proofs.Tryz
noncomputable section
set_option linter.unusedVariables false
set_option linter.unusedSimpArgs false
set_option maxRecDepth 100000
def wio:Nat→Option LoopSpec
 |_=>none
theorem wz5:vab prog 19 wur:=
 vaz G0_ok follows (f19.body.getD .skip) func19 (by kernel_rfl) fun p q=>⟨wio,(n89n_p _).p.map _,by rw [wjh];kernel_rfl,vaa (ids:=[]) (by kernel_rfl) (by kernel_rfl) trivial⟩
def G1:Glob:=G0.add 19 wur
theorem G1_ok:GlobOk prog G1:=G0_ok.add ⟨f19,func19,by kernel_rfl,by kernel_rfl⟩ wz5
def vii:((List Int)×Int×Int)→List AV:=fun x=>[.lst (.int .u8) x.1,.i x.2.1,.i x.2.2]
def viu:((List Int)×Int×Int)→St:=fun x=>[]
def v5a:((List Int)×Int×Int)→List AV:=fun x=>[.lst (.int .u8) x.1,.i x.2.1,.i x.2.2]
def v3r:((List Int)×Int×Int)→St:=fun x=>[]
def vpk:Nat→Option LoopSpec
 |6000001=>some (ctS [0,3,4] [] [.lst (.int .u8),.i,.i] [] vfe (fun p q=>(p.1,p.2.1,p.2.2.1)) (fun k=>(onE (exZ .norm vii viu) k)))
 |0=>some (lpS [0,3,4] [] [.lst (.int .u8),.i,.i] [] vmk (fun p q=>(p.1,p.2.1,p.2.2.1)) (fun k=>(onE (exZ (.exit 0) v5a v3r) k)))
 |_=>none
theorem vxh:CtAt G1.shallow ⟨0,32,vpk⟩ f77 6000001:=
 vgt rfl (fun x=>(n129n_jp6000001 x).p) vii viu (exZ .norm vii viu) (fun _ _=>⟨rfl,rfl⟩) (fun _ _=>rfl) (fun x=>by kernel_rfl)
theorem wph:LpAt G1.shallow ⟨0,32,vpk⟩ f77 0:=
 va2 rfl (fun x=>(n129n_bp0 x).p) v5a v3r (exZ (.exit 0) v5a v3r) (fun _ _=>⟨rfl,rfl⟩) (fun z=>by(intro h;cases h)) (fun _ _=>rfl) (fun x=>by kernel_rfl)
theorem wwa:vab prog 77 wn8:=
 vaz G1_ok.shallow follows (f77.body.getD .skip) func77 (by kernel_rfl) fun p q=>⟨vpk,(n129n_p _).p.map _,by rw [wbk];kernel_rfl,vaa (ids:=[6000001,0]) (by kernel_rfl) (by kernel_rfl) ⟨vxh,⟨wph,trivial⟩⟩⟩
def G2:Glob:=G1.add 77 wn8
theorem G2_ok:GlobOk prog G2:=G1_ok.add ⟨f77,func77,by kernel_rfl,by kernel_rfl⟩ wwa
def v99:Nat→Option LoopSpec
 |2000002=>some ⟨[0,2,4,6,8,10,12,14,16,18,20,22,24],[],fun _ _ _=>none⟩
 |2000003=>some ⟨[0,2,4,6,8,10,12,14,16,18],[],fun _ _ _=>none⟩
 |2000004=>some ⟨[0,2,4,6,8,10,12,14,16,18,20,22,24,26,28],[],fun _ _ _=>none⟩
 |_=>none
theorem wyu:vab prog 78 wkq:=
 vaz G2_ok.shallow follows (f78.body.getD .skip) func78 (by kernel_rfl) fun p q=>⟨v99,(n128n_p ..).p.map _,by rw [v8l];kernel_rfl,vaa (ids:=[]) (by kernel_rfl) (by kernel_rfl) trivial⟩
def G3:Glob:=G2.add 78 wkq
theorem G3_ok:GlobOk prog G3:=G2_ok.add ⟨f78,func78,by kernel_rfl,by kernel_rfl⟩ wyu
def v9g:Nat→Option LoopSpec
 |_=>none
theorem wyd:vab prog 79 wpd:=
 vaz G3_ok.shallow follows (f79.body.getD .skip) func79 (by kernel_rfl) fun p q=>⟨v9g,(n127n_p ..).p.map _,by rw [waj];kernel_rfl,vaa (ids:=[]) (by kernel_rfl) (by kernel_rfl) trivial⟩
def G4:Glob:=G3.add 79 wpd
theorem G4_ok:GlobOk prog G4:=G3_ok.add ⟨f79,func79,by kernel_rfl,by kernel_rfl⟩ wyd
def v4h:q47T→List AV:=fun x=>[.bp 0 0,.own 1,.i x.1]
def v4b:q47T→St:=fun x=>[.box [.lst (.int .u8) x.2.1,.i x.2.2.1,.i x.2.2.2.1],.arr (.i) x.2.2.2.2]
def vvn:Nat→Option LoopSpec
 |0=>some (lpS [3,4,5] [] [.bp 0 0,.own 1,.i] [.box [.lst (.int .u8),.i,.i],.arr (.i)] vl8 (fun p q=>(p.2.2.1,q.1.1,q.1.2.1,q.1.2.2.1,q.2.1)) (fun k=>(onE (exZ (.exit 0) v4h v4b) k)))
 |_=>none
theorem wit:LpAt G4.shallow ⟨0,21,vvn⟩ f20 0:=
 va2 rfl (fun x=>(n126n_bp0 x).p) v4h v4b (exZ (.exit 0) v4h v4b) (fun _ _=>⟨rfl,rfl⟩) (fun z=>by(intro h;cases h)) (fun _ _=>rfl) (fun x=>by kernel_rfl)
theorem wyx:vab prog 20 wj2:=
 vaz G4_ok.shallow follows (f20.body.getD .skip) func20 (by kernel_rfl) fun p q=>⟨vvn,(n126n_p _).p.map _,by rw [v9e];kernel_rfl,vaa (ids:=[0]) (by kernel_rfl) (by kernel_rfl) ⟨wit,trivial⟩⟩
def G5:Glob:=G4.add 20 wj2
theorem G5_ok:GlobOk prog G5:=G4_ok.add ⟨f20,func20,by kernel_rfl,by kernel_rfl⟩ wyx
def wg1:Nat→Option LoopSpec
 |_=>none
theorem wzc:vab prog 52 wuo:=
 vaz G5_ok follows (f52.body.getD .skip) func52 (by kernel_rfl) fun p q=>⟨wg1,n05n_p.p.map _,by rw [wjg];kernel_rfl,vaa (ids:=[]) (by kernel_rfl) (by kernel_rfl) trivial⟩
def G6:Glob:=G5.add 52 wuo
theorem G6_ok:GlobOk prog G6:=G5_ok.add ⟨f52,func52,by kernel_rfl,by kernel_rfl⟩ wzc
def whh:Nat→Option LoopSpec
 |_=>none
theorem wzg:vab prog 21 wtx:=
 vaz G6_ok follows (f21.body.getD .skip) func21 (by kernel_rfl) fun p q=>⟨whh,n17n_p.p.map _,by rw [wkj];kernel_rfl,vaa (ids:=[]) (by kernel_rfl) (by kernel_rfl) trivial⟩
def G7:Glob:=G6.add 21 wtx
theorem G7_ok:GlobOk prog G7:=G6_ok.add ⟨f21,func21,by kernel_rfl,by kernel_rfl⟩ wzg
def wfq:Nat→Option LoopSpec
 |_=>none
theorem w0z:vab prog 92 wuz:=
 vaz G7_ok follows (f92.body.getD .skip) func92 (by kernel_rfl) fun p q=>⟨wfq,(n63n_p _).p.map _,by rw [wnb];kernel_rfl,vaa (ids:=[]) (by kernel_rfl) (by kernel_rfl) trivial⟩
def G8:Glob:=G7.add 92 wuz
theorem G8_ok:GlobOk prog G8:=G7_ok.add ⟨f92,func92,by kernel_rfl,by kernel_rfl⟩ w0z
def wbf:q4T→List AV:=fun x=>[.own 0,.lst tTxn x.1,.i x.2.1,.i x.2.2.1]
def v8t:q4T→St:=fun x=>[.dep tTxn x.2.2.2 0 []]
def v2h:Nat→Option LoopSpec
 |0=>some (lpS [3,6,7,8] [some tTxn] [.own 0,.lst tTxn,.i,.i] [.dep tTxn 0] vof (fun p q=>(p.2.1,p.2.2.1,p.2.2.2.1,q.1)) (fun k=>(onE (exZ (.exit 0) wbf v8t) k)))
 |_=>none
theorem wqi:LpAt G8 ⟨0,19,v2h⟩ f140 0:=
 va2 rfl (fun x=>(n64n_bp0 x).p) wbf v8t (exZ (.exit 0) wbf v8t) (fun _ _=>⟨rfl,rfl⟩) (fun z=>by(intro h;cases h)) (fun _ _=>rfl) (fun x=>by kernel_rfl)
theorem w15:vab prog 140 wu0:=
 vaz G8_ok follows (f140.body.getD .skip) func140 (by kernel_rfl) fun p q=>⟨v2h,(n64n_p _).p.map _,by rw [wnp];kernel_rfl,vaa (ids:=[0]) (by kernel_rfl) (by kernel_rfl) ⟨wqi,trivial⟩⟩
def G9:Glob:=G8.add 140 wu0
theorem G9_ok:GlobOk prog G9:=G8_ok.add ⟨f140,func140,by kernel_rfl,by kernel_rfl⟩ w15
def wh4:Nat→Option LoopSpec
 |2000002=>some ⟨[0,2,6,8,5,12,11,14,16,18],[],fun _ _ _=>none⟩
 |_=>none
theorem wy9:vab prog 68 wvv:=
 vaz G9_ok follows (f68.body.getD .skip) func68 (by kernel_rfl) fun p q=>⟨wh4,(n61n_p _).p.map _,by rw [wd0];kernel_rfl,vaa (ids:=[]) (by kernel_rfl) (by kernel_rfl) trivial⟩
def G10:Glob:=G9.add 68 wvv
theorem G10_ok:GlobOk prog G10:=G9_ok.add ⟨f68,func68,by kernel_rfl,by kernel_rfl⟩ wy9
def wf3:Nat→Option LoopSpec
 |2000001=>some ⟨[0,2,6,8,5,11,12,14],[],fun _ _ _=>none⟩
 |_=>none
theorem w1p:vab prog 80 wu6:=
 vaz G10_ok follows (f80.body.getD .skip) func80 (by kernel_rfl) fun p q=>⟨wf3,(n62n_p _).p.map _,by rw [wnh];kernel_rfl,vaa (ids:=[]) (by kernel_rfl) (by kernel_rfl) trivial⟩
def G11:Glob:=G10.add 80 wu6
theorem G11_ok:GlobOk prog G11:=G10_ok.add ⟨f80,func80,by kernel_rfl,by kernel_rfl⟩ w1p
def wga:Nat→Option LoopSpec
 |_=>none
theorem w0d:vab prog 114 wv2:=
 vaz G11_ok follows (f114.body.getD .skip) func114 (by kernel_rfl) fun p q=>⟨wga,(n85n_p ..).p.map _,by rw [wky];kernel_rfl,vaa (ids:=[]) (by kernel_rfl) (by kernel_rfl) trivial⟩
def G12:Glob:=G11.add 114 wv2
theorem G12_ok:GlobOk prog G12:=G11_ok.add ⟨f114,func114,by kernel_rfl,by kernel_rfl⟩ w0d
def vv8:(ByteArray×Bool×Int)→List AV:=fun x=>[.str x.1,.bool x.2.1,.i x.2.2]
def vu6:(ByteArray×Bool×Int)→St:=fun x=>[]
def v2g:Nat→Option LoopSpec
 |0=>some (lpS [0,2,3] [] [.str,.bool,.i] [] vob (fun p q=>(p.1,p.2.1,p.2.2.1)) (fun k=>(Sum.elim (onE (exZ .ret vv8 vu6) k) (onE (exZ (.exit 0) vv8 vu6) k))))
 |_=>none
theorem ws0:LpAt G12 ⟨0,23,v2g⟩ f82 0:=
 va2 rfl (fun x=>(n24n_bp0 x).p) vv8 vu6 (Sum.elim ((exZ .ret vv8 vu6)) ((exZ (.exit 0) vv8 vu6))) (fun _ _=>⟨rfl,rfl⟩) (fun z=>by rcases z with z|z<;>(intro h;cases h)) (fun k z=>by rcases z with z|z<;>rfl) (fun x=>by kernel_rfl)
theorem w19:vab prog 82 wtn:=
 vaz G12_ok follows (f82.body.getD .skip) func82 (by kernel_rfl) fun p q=>⟨v2g,(n24n_p _).p.map _,by rw [wkz];kernel_rfl,vaa (ids:=[0]) (by kernel_rfl) (by kernel_rfl) ⟨ws0,trivial⟩⟩
def G13:Glob:=G12.add 82 wtn
theorem G13_ok:GlobOk prog G13:=G12_ok.add ⟨f82,func82,by kernel_rfl,by kernel_rfl⟩ w19
def wf8:Nat→Option LoopSpec
 |_=>none
theorem w1l:vab prog 235 wtw:=
 vaz G13_ok follows (f235.body.getD .skip) func235 (by kernel_rfl) fun p q=>⟨wf8,(n03n_p _).p.map _,by rw [woz];kernel_rfl,vaa (ids:=[]) (by kernel_rfl) (by kernel_rfl) trivial⟩
def G14:Glob:=G13.add 235 wtw
theorem G14_ok:GlobOk prog G14:=G13_ok.add ⟨f235,func235,by kernel_rfl,by kernel_rfl⟩ w1l
def whb:Nat→Option LoopSpec
 |_=>none
theorem wz3:vab prog 214 wuu:=
 vaz G14_ok follows (f214.body.getD .skip) func214 (by kernel_rfl) fun p q=>⟨whb,(n01n_p ..).p.map _,by rw [wlc];kernel_rfl,vaa (ids:=[]) (by kernel_rfl) (by kernel_rfl) trivial⟩
def G15:Glob:=G14.add 214 wuu
theorem G15_ok:GlobOk prog G15:=G14_ok.add ⟨f214,func214,by kernel_rfl,by kernel_rfl⟩ wz3
def wg5:Nat→Option LoopSpec
 |_=>none
theorem w1d:vab prog 236 wuk:=
 vaz G15_ok follows (f236.body.getD .skip) func236 (by kernel_rfl) fun p q=>⟨wg5,(n02n_p _).p.map _,by rw [wn2];kernel_rfl,vaa (ids:=[]) (by kernel_rfl) (by kernel_rfl) trivial⟩
def G16:Glob:=G15.add 236 wuk
theorem G16_ok:GlobOk prog G16:=G15_ok.add ⟨f236,func236,by kernel_rfl,by kernel_rfl⟩ w1d
def wg4:Nat→Option LoopSpec
 |_=>none
theorem w0s:vab prog 215 wtt:=
 vaz G16_ok follows (f215.body.getD .skip) func215 (by kernel_rfl) fun p q=>⟨wg4,(n00n_p ..).p.map _,by rw [wmq];kernel_rfl,vaa (ids:=[]) (by kernel_rfl) (by kernel_rfl) trivial⟩
def G17:Glob:=G16.add 215 wtt
theorem G17_ok:GlobOk prog G17:=G16_ok.add ⟨f215,func215,by kernel_rfl,by kernel_rfl⟩ w0s
def whs:Nat→Option LoopSpec
 |_=>none
theorem wzw:vab prog 179 wvc:=
 vaz G17_ok follows (f179.body.getD .skip) func179 (by kernel_rfl) fun p q=>⟨whs,(n60n_p ..).p.map _,by rw [wn3];kernel_rfl,vaa (ids:=[]) (by kernel_rfl) (by kernel_rfl) trivial⟩
def G18:Glob:=G17.add 179 wvc
theorem G18_ok:GlobOk prog G18:=G17_ok.add ⟨f179,func179,by kernel_rfl,by kernel_rfl⟩ wzw
def vvr:q15T→List AV:=fun x=>[.lst tVersion x.1,.bool x.2.1,.lst tVersion x.2.2.1,.i x.2.2.2.1,.i x.2.2.2.2]
def vvl:q15T→St:=fun x=>[]
def v0g:Nat→Option LoopSpec
 |0=>some (lpS [0,2,5,6,7] [] [.lst tVersion,.bool,.lst tVersion,.i,.i] [] vm4 (fun p q=>(p.1,p.2.1,p.2.2.1,p.2.2.2.1,p.2.2.2.2.1)) (fun k=>(Sum.elim (onE (exZ .ret vvr vvl) k) (onE (exZ (.exit 0) vvr vvl) k))))
 |2000004=>some ⟨[0,2,5,6,8,10,12,14,16,18,20,22,24,26,28,30,32,34,36,38,40,42,45,46,48,50,52,54,56,58,60,62,64,66,68,71,72,74,76],[],fun _ _ _=>none⟩
 |_=>none
theorem wrb:LpAt G18 ⟨0,55,v0g⟩ f113 0:=
 va2 rfl (fun x=>(n56n_bp0 x).p) vvr vvl (Sum.elim ((exZ .ret vvr vvl)) ((exZ (.exit 0) vvr vvl))) (fun _ _=>⟨rfl,rfl⟩) (fun z=>by rcases z with z|z<;>(intro h;cases h)) (fun k z=>by rcases z with z|z<;>rfl) (fun x=>by kernel_rfl)
theorem w18:vab prog 113 wtq:=
 vaz G18_ok follows (f113.body.getD .skip) func113 (by kernel_rfl) fun p q=>⟨v0g,(n56n_p _).p.map _,by rw [wll];kernel_rfl,vaa (ids:=[0]) (by kernel_rfl) (by kernel_rfl) ⟨wrb,trivial⟩⟩
def G19:Glob:=G18.add 113 wtq
theorem G19_ok:GlobOk prog G19:=G18_ok.add ⟨f113,func113,by kernel_rfl,by kernel_rfl⟩ w18
def wgn:Nat→Option LoopSpec
 |_=>none
theorem w13:vab prog 165 wuf:=
 vaz G19_ok follows (f165.body.getD .skip) func165 (by kernel_rfl) fun p q=>⟨wgn,(n39n_p _).p.map _,by rw [wj5];kernel_rfl,vaa (ids:=[]) (by kernel_rfl) (by kernel_rfl) trivial⟩
def G20:Glob:=G19.add 165 wuf
theorem G20_ok:GlobOk prog G20:=G19_ok.add ⟨f165,func165,by kernel_rfl,by kernel_rfl⟩ w13
def wg3:Nat→Option LoopSpec
 |_=>none
theorem w0y:vab prog 85 wuj:=
 vaz G20_ok follows (f85.body.getD .skip) func85 (by kernel_rfl) fun p q=>⟨wg3,(n58n_p _).p.map _,by rw [wle];kernel_rfl,vaa (ids:=[]) (by kernel_rfl) (by kernel_rfl) trivial⟩
def G21:Glob:=G20.add 85 wuj
theorem G21_ok:GlobOk prog G21:=G20_ok.add ⟨f85,func85,by kernel_rfl,by kernel_rfl⟩ w0y
def vye:q23T→List AV:=fun x=>[.lst tWrite x.1,.bool x.2.1,.lst tWrite x.2.2.1,.i x.2.2.2.1,.i x.2.2.2.2]
def vwv:q23T→St:=fun x=>[]
def v1f:Nat→Option LoopSpec
 |0=>some (lpS [0,2,5,6,7] [] [.lst tWrite,.bool,.lst tWrite,.i,.i] [] vmu (fun p q=>(p.1,p.2.1,p.2.2.1,p.2.2.2.1,p.2.2.2.2.1)) (fun k=>(Sum.elim (onE (exZ .ret vye vwv) k) (onE (exZ (.exit 0) vye vwv) k))))
 |2000004=>some ⟨[0,3,4,6,8,10,12,14,16,18,20,22,24,26,28,30,32,34],[],fun _ _ _=>none⟩
 |_=>none
theorem ws3:LpAt G21 ⟨0,34,v1f⟩ f166 0:=
 va2 rfl (fun x=>(n59n_bp0 x).p) vye vwv (Sum.elim ((exZ .ret vye vwv)) ((exZ (.exit 0) vye vwv))) (fun _ _=>⟨rfl,rfl⟩) (fun z=>by rcases z with z|z<;>(intro h;cases h)) (fun k z=>by rcases z with z|z<;>rfl) (fun x=>by kernel_rfl)
theorem w1r:vab prog 166 wun:=
 vaz G21_ok follows (f166.body.getD .skip) func166 (by kernel_rfl) fun p q=>⟨v1f,(n59n_p _).p.map _,by rw [wld];kernel_rfl,vaa (ids:=[0]) (by kernel_rfl) (by kernel_rfl) ⟨ws3,trivial⟩⟩
def G22:Glob:=G21.add 166 wun
theorem G22_ok:GlobOk prog G22:=G21_ok.add ⟨f166,func166,by kernel_rfl,by kernel_rfl⟩ w1r
def vks:q40T→List AV:=fun x=>[.bp 0 0,.bool x.1]
def vki:q40T→St:=fun x=>let xh:=x.2.2.2.2;[.box [.i x.2.1,.i x.2.2.1,.i x.2.2.2.1,.i xh.1,.lst tRange xh.2.1,.lst tWrite xh.2.2.1,.bool xh.2.2.2.1,.str xh.2.2.2.2]]
def vkw:q40T→List AV:=fun x=>[.bp 0 0,.bool x.1]
def vk2:q40T→St:=fun x=>let xh:=x.2.2.2.2;[.box [.i x.2.1,.i x.2.2.1,.i x.2.2.2.1,.i xh.1,.lst tRange xh.2.1,.lst tWrite xh.2.2.1,.bool xh.2.2.2.1,.str xh.2.2.2.2]]
def vwf:q25T→List AV:=fun x=>[.bp 0 0,.bool x.1,.lst tRange x.2.1,.i x.2.2.1,.i x.2.2.2.1]
def vvp:q25T→St:=fun x=>let xh:=x.2.2.2.2;[.box [.i xh.1,.i xh.2.1,.i xh.2.2.1,.i xh.2.2.2.1,.lst tRange xh.2.2.2.2.1,.lst tWrite xh.2.2.2.2.2.1,.bool xh.2.2.2.2.2.2.1,.str xh.2.2.2.2.2.2.2]]
def voq:Nat→Option LoopSpec
 |5000011=>some (ctS [1,2] [] [.bp 0 0,.bool] [.box [.i,.i,.i,.i,.lst tRange,.lst tWrite,.bool,.str]] vdg (fun p q=>(p.2.1,q.1.1,q.1.2.1,q.1.2.2.1,q.1.2.2.2.1,q.1.2.2.2.2.1,q.1.2.2.2.2.2.1,q.1.2.2.2.2.2.2.1,q.1.2.2.2.2.2.2.2.1)) (fun k=>(onE (exZ .ret vks vki) k)))
 |5000009=>some (ctS [1,2] [] [.bp 0 0,.bool] [.box [.i,.i,.i,.i,.lst tRange,.lst tWrite,.bool,.str]] vd8 (fun p q=>(p.2.1,q.1.1,q.1.2.1,q.1.2.2.1,q.1.2.2.2.1,q.1.2.2.2.2.1,q.1.2.2.2.2.2.1,q.1.2.2.2.2.2.2.1,q.1.2.2.2.2.2.2.2.1)) (fun k=>(onE (exZ .ret vkw vk2) k)))
 |0=>some (lpS [1,2,6,7,8] [] [.bp 0 0,.bool,.lst tRange,.i,.i] [.box [.i,.i,.i,.i,.lst tRange,.lst tWrite,.bool,.str]] vnz (fun p q=>(p.2.1,p.2.2.1,p.2.2.2.1,p.2.2.2.2.1,q.1.1,q.1.2.1,q.1.2.2.1,q.1.2.2.2.1,q.1.2.2.2.2.1,q.1.2.2.2.2.2.1,q.1.2.2.2.2.2.2.1,q.1.2.2.2.2.2.2.2.1)) (fun k=>(Sum.elim (onE (exZ .ret vwf vvp) k) (onE (exZ (.exit 0) vwf vvp) k))))
 |_=>none
theorem vzn:CtAt G22 ⟨0,93,voq⟩ f95 5000011:=
 vgt rfl (fun x=>(n55n_jp5000011 x).p) vks vki (exZ .ret vks vki) (fun _ _=>⟨rfl,rfl⟩) (fun _ _=>rfl) (fun x=>by kernel_rfl)
theorem vyy:CtAt G22 ⟨0,93,voq⟩ f95 5000009:=
 vgt rfl (fun x=>(n55n_jp5000009 x).p) vkw vk2 (exZ .ret vkw vk2) (fun _ _=>⟨rfl,rfl⟩) (fun _ _=>rfl) (fun x=>by kernel_rfl)
theorem wse:LpAt G22 ⟨0,93,voq⟩ f95 0:=
 va2 rfl (fun x=>(n55n_bp0 x).p) vwf vvp (Sum.elim ((exZ .ret vwf vvp)) ((exZ (.exit 0) vwf vvp))) (fun _ _=>⟨rfl,rfl⟩) (fun z=>by rcases z with z|z<;>(intro h;cases h)) (fun k z=>by rcases z with z|z<;>rfl) (fun x=>by kernel_rfl)
theorem w17:vab prog 95 wvz:=
 vaz G22_ok follows (f95.body.getD .skip) func95 (by kernel_rfl) fun p q=>⟨voq,(n55n_p _).p.map _,by rw [won];kernel_rfl,vaa (ids:=[5000011,5000009,0]) (by kernel_rfl) (by kernel_rfl) ⟨vzn,⟨vyy,⟨wse,trivial⟩⟩⟩⟩
def G23:Glob:=G22.add 95 wvz
theorem G23_ok:GlobOk prog G23:=G22_ok.add ⟨f95,func95,by kernel_rfl,by kernel_rfl⟩ w17
def wh9:Nat→Option LoopSpec
 |_=>none
theorem wy8:vab prog 115 wt0:=
 vaz G23_ok follows (f115.body.getD .skip) func115 (by kernel_rfl) fun p q=>⟨wh9,(n68n_p _).p.map _,by rw [wlw];kernel_rfl,vaa (ids:=[]) (by kernel_rfl) (by kernel_rfl) trivial⟩
def G24:Glob:=G23.add 115 wt0
theorem G24_ok:GlobOk prog G24:=G23_ok.add ⟨f115,func115,by kernel_rfl,by kernel_rfl⟩ wy8
def whm:Nat→Option LoopSpec
 |_=>none
theorem wzk:vab prog 116 wvt:=
 vaz G24_ok follows (f116.body.getD .skip) func116 (by kernel_rfl) fun p q=>⟨whm,(n69n_p _).p.map _,by rw [wiw];kernel_rfl,vaa (ids:=[]) (by kernel_rfl) (by kernel_rfl) trivial⟩
def G25:Glob:=G24.add 116 wvt
theorem G25_ok:GlobOk prog G25:=G24_ok.add ⟨f116,func116,by kernel_rfl,by kernel_rfl⟩ wzk
def wa8:Nat→Option LoopSpec
 |3000000=>some ⟨[],[some tTxn],fun _ _ _=>none⟩
 |_=>none
theorem vs9:vab prog 164 vld:=
 vaz G25_ok follows (f164.body.getD .skip) func164 (by kernel_rfl) fun p q=>⟨wa8,(n105n_p _).p.map2 _ _,by rw [waa];kernel_rfl,vaa (ids:=[]) (by kernel_rfl) (by kernel_rfl) trivial⟩
def G26:Glob:=G25.add 164 vld
theorem G26_ok:GlobOk prog G26:=G25_ok.add ⟨f164,func164,by kernel_rfl,by kernel_rfl⟩ vs9
def v92:q0T→List AV:=fun x=>[.lst (.slice tTxn) x.1,.i x.2.1,.lst (.slice tTxn) x.2.2.1,.i x.2.2.2.1,.i x.2.2.2.2]
def wa6:q0T→St:=fun x=>[]
def vig:Nat→Option LoopSpec
 |0=>some (lpS [0,3,9,10,11] [] [.lst (.slice tTxn),.i,.lst (.slice tTxn),.i,.i] [] vn9 (fun p q=>(p.1,p.2.1,p.2.2.1,p.2.2.2.1,p.2.2.2.2.1)) (fun k=>(onE (exZ (.exit 0) v92 wa6) k)))
 |2=>some ⟨[6,25,26,27],[],fun vals st k=>vae [.own 0,.lst (.slice tTxn),.i,.i] [.arr tTxn] vals st (fun p q=>vad vfr Fuel (.inl (p.2.1,p.2.2.1,p.2.2.2.1,q.1)) (Sum.elim (fun z=>k (.exit 2) [.own 0,.lst (.slice tTxn) z.1,.i z.2.1,.i z.2.2.1] [.arr tTxn z.2.2.2]) (fun z=>k (.exit 2) [.own 0,.lst (.slice tTxn) z.1,.i z.2.1,.i z.2.2.1] [.dep tTxn z.2.2.2 0 []])))
   (vae [.own 0,.lst (.slice tTxn),.i,.i] [.dep tTxn 0] vals st (fun p q=>vad vfr Fuel (.inr (p.2.1,p.2.2.1,p.2.2.2.1,q.1)) (Sum.elim (fun z=>k (.exit 2) [.own 0,.lst (.slice tTxn) z.1,.i z.2.1,.i z.2.2.1] [.arr tTxn z.2.2.2]) (fun z=>k (.exit 2) [.own 0,.lst (.slice tTxn) z.1,.i z.2.1,.i z.2.2.1] [.dep tTxn z.2.2.2 0 []])))
   (none))⟩
 |_=>none
theorem wrp:LpAt G26 ⟨0,36,vig⟩ f94 0:=
 va2 rfl (fun x=>(n90n_bp0 x).p) v92 wa6 (exZ (.exit 0) v92 wa6) (fun _ _=>⟨rfl,rfl⟩) (fun z=>by(intro h;cases h)) (fun _ _=>rfl) (fun x=>by kernel_rfl)
def v2r:(q1T⊕q1T)→List AV:=(Sum.elim (fun x=>[.own 0,.lst (.slice tTxn) x.1,.i x.2.1,.i x.2.2.1]) (fun x=>[.own 0,.lst (.slice tTxn) x.1,.i x.2.1,.i x.2.2.1]))
def v35:(q1T⊕q1T)→St:=(Sum.elim (fun x=>[.arr tTxn x.2.2.2]) (fun x=>[.dep tTxn x.2.2.2 0 []]))
def vvb:(q1T⊕q1T)→Out×List AV×St:=(Sum.elim (fun z=>((.exit 2),[.own 0,.lst (.slice tTxn) z.1,.i z.2.1,.i z.2.2.1],[.arr tTxn z.2.2.2])) (fun z=>((.exit 2),[.own 0,.lst (.slice tTxn) z.1,.i z.2.1,.i z.2.2.1],[.dep tTxn z.2.2.2 0 []])))
theorem wdo (x:(q1T⊕q1T)):exec G26 ⟨0,36,vig⟩ (vfk f94 2) (vo2 ⟨0,36,vig⟩ [6,25,26,27] []) (vh2 (vgy 36) [6,25,26,27] (v2r x)) (v35 x)=vfr x (Sum.elim (fun y=>some ⟨.norm,v2r y,v35 y⟩) fun z=>some ⟨(vvb z).1,(vvb z).2.1,(vvb z).2.2⟩):=by
 rcases x with x|x<;>kernel_rfl
theorem wqs:∀sp,(vig 2)=some sp→vvj G26 ⟨0,36,vig⟩ sp (vfk f94 2):=by
 intro sp hsp vals st k r h
 cases hsp
 dsimp only at h
 rcases vc1 h with⟨p,q,rfl,rfl,h⟩|h
 ·exact veq (fun x=>(n90n_bp2 x).p) v2r v35 vvb (fun z=>by rcases z with z|z<;>(intro h;cases h)) wdo Fuel (.inl (p.2.1,p.2.2.1,p.2.2.2.1,q.1)) _ k r (fun z=>by rcases z with z|z<;>rfl) h
 rcases vc1 h with⟨p,q,rfl,rfl,h⟩|h
 ·exact veq (fun x=>(n90n_bp2 x).p) v2r v35 vvb (fun z=>by rcases z with z|z<;>(intro h;cases h)) wdo Fuel (.inr (p.2.1,p.2.2.1,p.2.2.2.1,q.1)) _ k r (fun z=>by rcases z with z|z<;>rfl) h
 cases h
theorem wy7:vab prog 94 wvg:=
 vaz G26_ok follows (f94.body.getD .skip) func94 (by kernel_rfl) fun p q=>⟨vig,(n90n_p _).p.map2 _ _,by rw [wm8];kernel_rfl,vaa (ids:=[0,2]) (by kernel_rfl) (by kernel_rfl) ⟨wrp,⟨wqs,trivial⟩⟩⟩
def G27:Glob:=G26.add 94 wvg
theorem G27_ok:GlobOk prog G27:=G26_ok.add ⟨f94,func94,by kernel_rfl,by kernel_rfl⟩ wy7
def wia:Nat→Option LoopSpec
 |_=>none
theorem wzv:vab prog 163 wty:=
 vaz G27_ok follows (f163.body.getD .skip) func163 (by kernel_rfl) fun p q=>⟨wia,(n67n_p ..).p.map _,by rw [wnz];kernel_rfl,vaa (ids:=[]) (by kernel_rfl) (by kernel_rfl) trivial⟩
def G28:Glob:=G27.add 163 wty
theorem G28_ok:GlobOk prog G28:=G27_ok.add ⟨f163,func163,by kernel_rfl,by kernel_rfl⟩ wzv
def vrl:q10T→List AV:=fun x=>[.lst tTxn x.1,.fn 163 [.bp 0 0],.i x.2.1,.i x.2.2.1,.i x.2.2.2.1]
def vrg:q10T→St:=fun x=>let xh:=x.2.2.2.2;[.box [.i xh.1,.i xh.2.1,.i xh.2.2.1,.i xh.2.2.2.1,.lst tRange xh.2.2.2.2.1,.lst tWrite xh.2.2.2.2.2.1,.bool xh.2.2.2.2.2.2.1,.str xh.2.2.2.2.2.2.2]]
def vxw:Nat→Option LoopSpec
 |0=>some (lpS [0,1,4,7,8] [] [.lst tTxn,.fn 163 [.bp 0 0],.i,.i,.i] [.box [.i,.i,.i,.i,.lst tRange,.lst tWrite,.bool,.str]] vjj (fun p q=>(p.1,p.2.2.1,p.2.2.2.1,p.2.2.2.2.1,q.1.1,q.1.2.1,q.1.2.2.1,q.1.2.2.2.1,q.1.2.2.2.2.1,q.1.2.2.2.2.2.1,q.1.2.2.2.2.2.2.1,q.1.2.2.2.2.2.2.2.1)) (fun k=>(Sum.elim (onE (exZ .ret vrl vrg) k) (onE (exZ (.exit 0) vrl vrg) k))))
 |_=>none
theorem wk0:LpAt G28 ⟨1,19,vxw⟩ f99 0:=
 va2 rfl (fun x=>(n119n_bp0 x).p) vrl vrg (Sum.elim ((exZ .ret vrl vrg)) ((exZ (.exit 0) vrl vrg))) (fun _ _=>⟨rfl,rfl⟩) (fun z=>by rcases z with z|z<;>(intro h;cases h)) (fun k z=>by rcases z with z|z<;>rfl) (fun x=>by kernel_rfl)
theorem vgx:vab prog 99 vee:=
 vaz G28_ok follows (f99.body.getD .skip) func99 (by kernel_rfl) fun p q=>⟨vxw,(n119n_p ..).p.map _,by rw [wah];kernel_rfl,vaa (ids:=[0]) (by kernel_rfl) (by kernel_rfl) ⟨wk0,trivial⟩⟩
def G29:Glob:=G28.add 99 vee
theorem G29_ok:GlobOk prog G29:=G28_ok.add ⟨f99,func99,by kernel_rfl,by kernel_rfl⟩ vgx
def v8o:Nat→Option LoopSpec
 |_=>none
theorem vfd:vab prog 204 vdr:=
 vaz G29_ok follows (f204.body.getD .skip) func204 (by kernel_rfl) fun p q=>⟨v8o,(n100n_p ..).p.map _,by rw [v91];kernel_rfl,vaa (ids:=[]) (by kernel_rfl) (by kernel_rfl) trivial⟩
def G30:Glob:=G29.add 204 vdr
theorem G30_ok:GlobOk prog G30:=G29_ok.add ⟨f204,func204,by kernel_rfl,by kernel_rfl⟩ vfd
def wgd:Nat→Option LoopSpec
 |_=>none
theorem vx5:vab prog 159 vpj:=
 vaz G30_ok follows (f159.body.getD .skip) func159 (by kernel_rfl) fun p q=>⟨wgd,(n84n_p ..).p.map _,by rw [wp4];kernel_rfl,vaa (ids:=[]) (by kernel_rfl) (by kernel_rfl) trivial⟩
def G31:Glob:=G30.add 159 vpj
theorem G31_ok:GlobOk prog G31:=G30_ok.add ⟨f159,func159,by kernel_rfl,by kernel_rfl⟩ vx5
def vwj:q3T→List AV:=fun x=>[.lst tTxn x.1,.i x.2.1,.bool x.2.2.1,.lst tTxn x.2.2.2.1,.i x.2.2.2.2.1,.i x.2.2.2.2.2]
def vvu:q3T→St:=fun x=>[]
def v04:Nat→Option LoopSpec
 |0=>some (lpS [0,1,4,7,8,9] [] [.lst tTxn,.i,.bool,.lst tTxn,.i,.i] [] vm0 (fun p q=>(p.1,p.2.1,p.2.2.1,p.2.2.2.1,p.2.2.2.2.1,p.2.2.2.2.2.1)) (fun k=>(Sum.elim (onE (exZ .ret vwj vvu) k) (onE (exZ (.exit 0) vwj vvu) k))))
 |_=>none
theorem wsp:LpAt G31 ⟨0,26,v04⟩ f93 0:=
 va2 rfl (fun x=>(n66n_bp0 x).p) vwj vvu (Sum.elim ((exZ .ret vwj vvu)) ((exZ (.exit 0) vwj vvu))) (fun _ _=>⟨rfl,rfl⟩) (fun z=>by rcases z with z|z<;>(intro h;cases h)) (fun k z=>by rcases z with z|z<;>rfl) (fun x=>by kernel_rfl)
theorem wz1:vab prog 93 wuh:=
 vaz G31_ok follows (f93.body.getD .skip) func93 (by kernel_rfl) fun p q=>⟨v04,(n66n_p ..).p.map _,by rw [wj8];kernel_rfl,vaa (ids:=[0]) (by kernel_rfl) (by kernel_rfl) ⟨wsp,trivial⟩⟩
def G32:Glob:=G31.add 93 wuh
theorem G32_ok:GlobOk prog G32:=G31_ok.add ⟨f93,func93,by kernel_rfl,by kernel_rfl⟩ wz1
def vwa:q31T→List AV:=fun x=>[.bp 0 0,.bool x.1,.lst tVersion x.2.1,.i x.2.2.1,.i x.2.2.2.1]
def vyp:q31T→St:=fun x=>let xh:=x.2.2.2.2;[.box [.lst tVersion xh.1,.lst tTxn xh.2.1,.lst tTxn xh.2.2.1,.i xh.2.2.2.1,.i xh.2.2.2.2]]
def vxk:q27T→List AV:=fun x=>[.bp 0 0,.bool x.1,.lst tTxn x.2.1,.i x.2.2.1,.i x.2.2.2.1]
def vv4:q27T→St:=fun x=>let xh:=x.2.2.2.2;[.box [.lst tVersion xh.1,.lst tTxn xh.2.1,.lst tTxn xh.2.2.1,.i xh.2.2.2.1,.i xh.2.2.2.2]]
def vwp:q27T→List AV:=fun x=>[.bp 0 0,.bool x.1,.lst tTxn x.2.1,.i x.2.2.1,.i x.2.2.2.1]
def vwd:q27T→St:=fun x=>let xh:=x.2.2.2.2;[.box [.lst tVersion xh.1,.lst tTxn xh.2.1,.lst tTxn xh.2.2.1,.i xh.2.2.2.1,.i xh.2.2.2.2]]
def vkv:q30T→List AV:=fun x=>[.bp 0 0,.bool x.1]
def vk1:q30T→St:=fun x=>[.box [.lst tVersion x.2.1,.lst tTxn x.2.2.1,.lst tTxn x.2.2.2.1,.i x.2.2.2.2.1,.i x.2.2.2.2.2]]
def vk8:Nat→Option LoopSpec
 |0=>some (lpS [1,2,38,39,40] [] [.bp 0 0,.bool,.lst tVersion,.i,.i] [.box [.lst tVersion,.lst tTxn,.lst tTxn,.i,.i]] vms (fun p q=>(p.2.1,p.2.2.1,p.2.2.2.1,p.2.2.2.2.1,q.1.1,q.1.2.1,q.1.2.2.1,q.1.2.2.2.1,q.1.2.2.2.2.1)) (fun k=>(Sum.elim (onE (exZ .ret vwa vyp) k) (onE (exZ (.exit 0) vwa vyp) k))))
 |2=>some (lpS [1,2,51,52,53] [] [.bp 0 0,.bool,.lst tTxn,.i,.i] [.box [.lst tVersion,.lst tTxn,.lst tTxn,.i,.i]] vnu (fun p q=>(p.2.1,p.2.2.1,p.2.2.2.1,p.2.2.2.2.1,q.1.1,q.1.2.1,q.1.2.2.1,q.1.2.2.2.1,q.1.2.2.2.2.1)) (fun k=>(Sum.elim (onE (exZ .ret vxk vv4) k) (onE (exZ (.exit 2) vxk vv4) k))))
 |4=>some (lpS [1,2,91,92,93] [] [.bp 0 0,.bool,.lst tTxn,.i,.i] [.box [.lst tVersion,.lst tTxn,.lst tTxn,.i,.i]] vnc (fun p q=>(p.2.1,p.2.2.1,p.2.2.2.1,p.2.2.2.2.1,q.1.1,q.1.2.1,q.1.2.2.1,q.1.2.2.2.1,q.1.2.2.2.2.1)) (fun k=>(Sum.elim (onE (exZ .ret vwp vwd) k) (onE (exZ (.exit 4) vwp vwd) k))))
 |5000003=>some (ctS [1,2] [] [.bp 0 0,.bool] [.box [.lst tVersion,.lst tTxn,.lst tTxn,.i,.i]] vey (fun p q=>(p.2.1,q.1.1,q.1.2.1,q.1.2.2.1,q.1.2.2.2.1,q.1.2.2.2.2.1)) (fun k=>(onE (exZ .ret vkv vk1) k)))
 |2000012=>some ⟨[0,3,4,6,8,11,12,14,16,18,20,22,24,26,28,30,32,34,36,38,40,42,44,46,48,50,52,54,56,58,60],[],fun _ _ _=>none⟩
 |2000018=>some ⟨[0,3,4,6,8,11,12,14,16,18,20,22,24,26,28,30,32,34,36,38,40,42,44,46,48,50,52,54,56,58,60],[],fun _ _ _=>none⟩
 |2000021=>some ⟨[0,2,4,6,12,14,9,11,17,18],[],fun _ _ _=>none⟩
 |_=>none
theorem wqo:LpAt G32 ⟨0,139,vk8⟩ f47 0:=
 va2 rfl (fun x=>(n06n_bp0 x).p) vwa vyp (Sum.elim ((exZ .ret vwa vyp)) ((exZ (.exit 0) vwa vyp))) (fun _ _=>⟨rfl,rfl⟩) (fun z=>by rcases z with z|z<;>(intro h;cases h)) (fun k z=>by rcases z with z|z<;>rfl) (fun x=>by kernel_rfl)
theorem wrc:LpAt G32 ⟨0,139,vk8⟩ f47 2:=
 va2 rfl (fun x=>(n06n_bp2 x).p) vxk vv4 (Sum.elim ((exZ .ret vxk vv4)) ((exZ (.exit 2) vxk vv4))) (fun _ _=>⟨rfl,rfl⟩) (fun z=>by rcases z with z|z<;>(intro h;cases h)) (fun k z=>by rcases z with z|z<;>rfl) (fun x=>by kernel_rfl)
theorem wsi:LpAt G32 ⟨0,139,vk8⟩ f47 4:=
 va2 rfl (fun x=>(n06n_bp4 x).p) vwp vwd (Sum.elim ((exZ .ret vwp vwd)) ((exZ (.exit 4) vwp vwd))) (fun _ _=>⟨rfl,rfl⟩) (fun z=>by rcases z with z|z<;>(intro h;cases h)) (fun k z=>by rcases z with z|z<;>rfl) (fun x=>by kernel_rfl)
theorem vy1:CtAt G32 ⟨0,139,vk8⟩ f47 5000003:=
 vgt rfl (fun x=>(n06n_jp5000003 x).p) vkv vk1 (exZ .ret vkv vk1) (fun _ _=>⟨rfl,rfl⟩) (fun _ _=>rfl) (fun x=>by kernel_rfl)
theorem wzb:vab prog 47 wut:=
 vaz G32_ok follows (f47.body.getD .skip) func47 (by kernel_rfl) fun p q=>⟨vk8,(n06n_p _).p.map _,by rw [wkh];kernel_rfl,vaa (ids:=[0,2,4,5000003]) (by kernel_rfl) (by kernel_rfl) ⟨wqo,⟨wrc,⟨wsi,⟨vy1,trivial⟩⟩⟩⟩⟩
def G33:Glob:=G32.add 47 wut
theorem G33_ok:GlobOk prog G33:=G32_ok.add ⟨f47,func47,by kernel_rfl,by kernel_rfl⟩ wzb
def vvv:q26T→List AV:=fun x=>[.bp 0 0,.bool x.1,.lst tTxn x.2.1,.i x.2.2.1,.i x.2.2.2.1]
def vxl:q26T→St:=fun x=>let xh:=x.2.2.2.2;[.box [.lst tVersion xh.1,.lst tTxn xh.2.1,.lst tTxn xh.2.2.1,.i xh.2.2.2.1,.i xh.2.2.2.2.1,.lst tTxn xh.2.2.2.2.2]]
def vko:q29T→List AV:=fun x=>[.bp 0 0,.bool x.1]
def vkt:q29T→St:=fun x=>[.box [.lst tVersion x.2.1,.lst tTxn x.2.2.1,.lst tTxn x.2.2.2.1,.i x.2.2.2.2.1,.i x.2.2.2.2.2.1,.lst tTxn x.2.2.2.2.2.2]]
def vso:Nat→Option LoopSpec
 |0=>some (lpS [1,2,33,34,35] [] [.bp 0 0,.bool,.lst tTxn,.i,.i] [.box [.lst tVersion,.lst tTxn,.lst tTxn,.i,.i,.lst tTxn]] vnk (fun p q=>(p.2.1,p.2.2.1,p.2.2.2.1,p.2.2.2.2.1,q.1.1,q.1.2.1,q.1.2.2.1,q.1.2.2.2.1,q.1.2.2.2.2.1,q.1.2.2.2.2.2.1)) (fun k=>(Sum.elim (onE (exZ .ret vvv vxl) k) (onE (exZ (.exit 0) vvv vxl) k))))
 |5000003=>some (ctS [1,2] [] [.bp 0 0,.bool] [.box [.lst tVersion,.lst tTxn,.lst tTxn,.i,.i,.lst tTxn]] vd3 (fun p q=>(p.2.1,q.1.1,q.1.2.1,q.1.2.2.1,q.1.2.2.2.1,q.1.2.2.2.2.1,q.1.2.2.2.2.2.1)) (fun k=>(onE (exZ .ret vko vkt) k)))
 |2000001=>some ⟨[0,2,5,6,8,10,12,14,16,18,20,22,24,26,28,30,32,34,36,42,44,46,39,41,49,50,52],[],fun _ _ _=>none⟩
 |2000006=>some ⟨[0,3,4,6,8,10,12,14,16,18,20,22,24,26,28,30,32,34,36,38,40,42,44,46,48,50,52,54,56,58,60,62],[],fun _ _ _=>none⟩
 |_=>none
theorem wq7:LpAt G33 ⟨0,73,vso⟩ f27 0:=
 va2 rfl (fun x=>(n18n_bp0 x).p) vvv vxl (Sum.elim ((exZ .ret vvv vxl)) ((exZ (.exit 0) vvv vxl))) (fun _ _=>⟨rfl,rfl⟩) (fun z=>by rcases z with z|z<;>(intro h;cases h)) (fun k z=>by rcases z with z|z<;>rfl) (fun x=>by kernel_rfl)
theorem vzx:CtAt G33 ⟨0,73,vso⟩ f27 5000003:=
 vgt rfl (fun x=>(n18n_jp5000003 x).p) vko vkt (exZ .ret vko vkt) (fun _ _=>⟨rfl,rfl⟩) (fun _ _=>rfl) (fun x=>by kernel_rfl)
theorem w0n:vab prog 27 wto:=
 vaz G33_ok follows (f27.body.getD .skip) func27 (by kernel_rfl) fun p q=>⟨vso,(n18n_p _).p.map _,by rw [wox];kernel_rfl,vaa (ids:=[0,5000003]) (by kernel_rfl) (by kernel_rfl) ⟨wq7,⟨vzx,trivial⟩⟩⟩
def G34:Glob:=G33.add 27 wto
theorem G34_ok:GlobOk prog G34:=G33_ok.add ⟨f27,func27,by kernel_rfl,by kernel_rfl⟩ w0n
def vz8:q55T→List AV:=fun x=>[.bp 0 0,.bp 1 0,.i x.1,.i x.2.1,.bp 2 0]
def vz2:q55T→St:=fun x=>let xh:=x.2.2.2.2;let xi:=xh.2.2.2.2;let xj:=xi.2.2.2.2;[.box [.lst tVersion x.2.2.1,.lst tTxn x.2.2.2.1,.lst tTxn xh.1,.i xh.2.1,.i xh.2.2.1,.lst tTxn xh.2.2.2.1],.box [.own 3,.own 4,.own 5,.i xi.1,.i xi.2.1,.own 6],.box [.own 7,.own 8,.own 9,.i xi.2.2.1,.i xi.2.2.2.1,.own 10],.arr tVersion xj.1,.dep tTxn xj.2.1 0 [],.dep tTxn xj.2.2.1 0 [],.dep tTxn xj.2.2.2.1 0 [],.arr tVersion xj.2.2.2.2.1,.dep tTxn xj.2.2.2.2.2.1 0 [],.dep tTxn xj.2.2.2.2.2.2.1 0 [],.dep tTxn xj.2.2.2.2.2.2.2 0 []]
def vm9:q56T→Out×List AV×St:=fun z=>let zh:=z.2.2.2.2;let zi:=zh.2.2.2.2;(.ret,[.bp 0 0,.bp 1 0,.i z.1,.i z.2.1,.bp 2 0],[.box [.lst tVersion z.2.2.1,.lst tTxn z.2.2.2.1,.lst tTxn zh.1,.i zh.2.1,.i zh.2.2.1,.lst tTxn zh.2.2.2.1],.box [.own 3,.own 4,.own 5,.i zi.1,.i zi.2.1,.own 6],.box [.own 3,.own 4,.own 5,.i zi.2.2.1,.i zi.2.2.2.1,.own 6],.arr tVersion zi.2.2.2.2.1,.dep tTxn zi.2.2.2.2.2.1 0 [],.dep tTxn zi.2.2.2.2.2.2.1 0 [],.dep tTxn zi.2.2.2.2.2.2.2 0 []])
def v2n:Nat→Option LoopSpec
 |5000004=>some (ctS [1,2,3,4,5] [none,none,none,none,none,none,none,none,none,none,none,some tVersion,some tTxn,some tTxn,none,none,some tTxn] [.bp 0 0,.bp 1 0,.i,.i,.bp 2 0] [.box [.lst tVersion,.lst tTxn,.lst tTxn,.i,.i,.lst tTxn],.box [.own 3,.own 4,.own 5,.i,.i,.own 6],.box [.own 7,.own 8,.own 9,.i,.i,.own 10],.arr tVersion,.dep tTxn 0,.dep tTxn 0,.dep tTxn 0,.arr tVersion,.dep tTxn 0,.dep tTxn 0,.dep tTxn 0] vgu (fun p q=>(p.2.2.1,p.2.2.2.1,q.1.1,q.1.2.1,q.1.2.2.1,q.1.2.2.2.1,q.1.2.2.2.2.1,q.1.2.2.2.2.2.1,q.2.1.2.2.2.1,q.2.1.2.2.2.2.1,q.2.2.1.2.2.2.1,q.2.2.1.2.2.2.2.1,q.2.2.2.1,q.2.2.2.2.1,q.2.2.2.2.2.1,q.2.2.2.2.2.2.1,q.2.2.2.2.2.2.2.1,q.2.2.2.2.2.2.2.2.1,q.2.2.2.2.2.2.2.2.2.1,q.2.2.2.2.2.2.2.2.2.2.1)) (fun k=>(onE vm9 k)))
 |_=>none
theorem vy0:CtAt G34 ⟨0,46,v2n⟩ f22 5000004:=
 vgt rfl (fun x=>(n07n_jp5000004 x).p) vz8 vz2 vm9 (fun _ _=>⟨rfl,rfl⟩) (fun _ _=>rfl) (fun x=>by kernel_rfl)
theorem w1e:vab prog 22 wvp:=
 vaz G34_ok follows (f22.body.getD .skip) func22 (by kernel_rfl) fun p q=>⟨v2n,(n07n_p _).p.map _,by rw [wp7];kernel_rfl,vaa (ids:=[5000004]) (by kernel_rfl) (by kernel_rfl) ⟨vy0,trivial⟩⟩
def G35:Glob:=G34.add 22 wvp
theorem G35_ok:GlobOk prog G35:=G34_ok.add ⟨f22,func22,by kernel_rfl,by kernel_rfl⟩ w1e
def wh3:Nat→Option LoopSpec
 |_=>none
theorem w0i:vab prog 152 wts:=
 vaz G35_ok follows (f152.body.getD .skip) func152 (by kernel_rfl) fun p q=>⟨wh3,(n30n_p ..).p.map _,by rw [wk2];kernel_rfl,vaa (ids:=[]) (by kernel_rfl) (by kernel_rfl) trivial⟩
def G36:Glob:=G35.add 152 wts
theorem G36_ok:GlobOk prog G36:=G35_ok.add ⟨f152,func152,by kernel_rfl,by kernel_rfl⟩ w0i
def vr8:q12T→List AV:=fun x=>[.lst tTxn x.1,.fn 152 [.bp 0 0],.i x.2.1,.i x.2.2.1,.i x.2.2.2.1]
def vql:q12T→St:=fun x=>[.box [.i x.2.2.2.2]]
def vya:Nat→Option LoopSpec
 |0=>some (lpS [0,1,4,7,8] [] [.lst tTxn,.fn 152 [.bp 0 0],.i,.i,.i] [.box [.i]] vi5 (fun p q=>(p.1,p.2.2.1,p.2.2.2.1,p.2.2.2.2.1,q.1.1)) (fun k=>(Sum.elim (onE (exZ .ret vr8 vql) k) (onE (exZ (.exit 0) vr8 vql) k))))
 |_=>none
theorem wi4:LpAt G36 ⟨1,19,vya⟩ f99 0:=
 va2 rfl (fun x=>(n111n_bp0 x).p) vr8 vql (Sum.elim ((exZ .ret vr8 vql)) ((exZ (.exit 0) vr8 vql))) (fun _ _=>⟨rfl,rfl⟩) (fun z=>by rcases z with z|z<;>(intro h;cases h)) (fun k z=>by rcases z with z|z<;>rfl) (fun x=>by kernel_rfl)
theorem vgk:vab prog 99 vcn:=by
 refine vfc G36_ok follows func99 (c:=f99.body.getD .skip) (by kernel_rfl) vgx ?_
 intro args s k r hk
 unfold vcn at hk
 rcases vam hk with⟨p,q,rfl,rfl⟩|hk
 ·exact .inl ⟨vya,(n111n_p p.1 q.1.1).p.map _,by unfold vcn;rw [v95];kernel_rfl,vaa (ids:=[0]) (by kernel_rfl) (by kernel_rfl) ⟨wi4,trivial⟩⟩
 exact .inr hk
def G37:Glob:=G36.add 99 vcn
theorem G37_ok:GlobOk prog G37:=G36_ok.add ⟨f99,func99,by kernel_rfl,by kernel_rfl⟩ vgk
def whx:Nat→Option LoopSpec
 |_=>none
theorem wzl:vab prog 84 wvx:=
 vaz G37_ok follows (f84.body.getD .skip) func84 (by kernel_rfl) fun p q=>⟨whx,(n29n_p ..).p.map _,by rw [woy];kernel_rfl,vaa (ids:=[]) (by kernel_rfl) (by kernel_rfl) trivial⟩
def G38:Glob:=G37.add 84 wvx
theorem G38_ok:GlobOk prog G38:=G37_ok.add ⟨f84,func84,by kernel_rfl,by kernel_rfl⟩ wzl
def vqm:q2T→List AV:=fun x=>[.lst tRange x.1,.bp 0 0,.i x.2.1,.i x.2.2.1,.i x.2.2.2.1]
def vqy:q2T→St:=fun x=>[.box [.str x.2.2.2.2.1,.str x.2.2.2.2.2]]
def vwx:Nat→Option LoopSpec
 |0=>some (lpS [0,3,4,7,8] [] [.lst tRange,.bp 0 0,.i,.i,.i] [.box [.str,.str]] vjm (fun p q=>(p.1,p.2.2.1,p.2.2.2.1,p.2.2.2.2.1,q.1.1,q.1.2.1)) (fun k=>(Sum.elim (onE (exZ .ret vqm vqy) k) (onE (exZ (.exit 0) vqm vqy) k))))
 |_=>none
theorem wm5:LpAt G38 ⟨0,19,vwx⟩ f221 0:=
 va2 rfl (fun x=>(n123n_bp0 x).p) vqm vqy (Sum.elim ((exZ .ret vqm vqy)) ((exZ (.exit 0) vqm vqy))) (fun _ _=>⟨rfl,rfl⟩) (fun z=>by rcases z with z|z<;>(intro h;cases h)) (fun k z=>by rcases z with z|z<;>rfl) (fun x=>by kernel_rfl)
theorem wx4:vab prog 221 wnw:=
 vaz G38_ok follows (f221.body.getD .skip) func221 (by kernel_rfl) fun p q=>⟨vwx,(n123n_p ..).p.map _,by rw [wbh];kernel_rfl,vaa (ids:=[0]) (by kernel_rfl) (by kernel_rfl) ⟨wm5,trivial⟩⟩
def G39:Glob:=G38.add 221 wnw
theorem G39_ok:GlobOk prog G39:=G38_ok.add ⟨f221,func221,by kernel_rfl,by kernel_rfl⟩ wx4
def v8j:Nat→Option LoopSpec
 |_=>none
theorem wxf:vab prog 194 wov:=
 vaz G39_ok follows (f194.body.getD .skip) func194 (by kernel_rfl) fun p q=>⟨v8j,(n101n_p ..).p.map _,by rw [wai];kernel_rfl,vaa (ids:=[]) (by kernel_rfl) (by kernel_rfl) trivial⟩
def G40:Glob:=G39.add 194 wov
theorem G40_ok:GlobOk prog G40:=G39_ok.add ⟨f194,func194,by kernel_rfl,by kernel_rfl⟩ wxf
def vzw:q37T→List AV:=fun x=>[.bp 0 0,.bp 1 0,.bp 2 0,.bool x.1,.bp 3 0]
def vzb:q37T→St:=fun x=>let xh:=x.2.2.2.2;let xi:=xh.2.2.2.2;let xj:=xi.2.2.2.2;let xk:=xj.2.2.2.2;let xl:=xk.2.2.2.2;[.box [.i x.2.1,.i x.2.2.1,.i x.2.2.2.1,.i xh.1,.lst tRange xh.2.1,.lst tWrite xh.2.2.1,.bool xh.2.2.2.1,.str xi.1],.box [.str xi.2.1,.str xi.2.2.1],.box [.i xi.2.2.2.1,.i xj.1,.i xj.2.1,.i xj.2.2.1,.own 4,.own 5,.bool xj.2.2.2.1,.str xk.1],.box [.i xk.2.1,.i xk.2.2.1,.i xk.2.2.2.1,.i xl.1,.own 6,.own 7,.bool xl.2.1,.str xl.2.2.1],.arr tRange xl.2.2.2.1,.arr tWrite xl.2.2.2.2.1,.arr tRange xl.2.2.2.2.2.1,.arr tWrite xl.2.2.2.2.2.2]
def vnb:q38T→Out×List AV×St:=fun z=>let zh:=z.2.2.2.2;let zi:=zh.2.2.2.2;let zj:=zi.2.2.2.2;let zk:=zj.2.2.2.2;let zl:=zk.2.2.2.2;(.ret,[.bp 0 0,.bp 1 0,.bp 2 0,.bool z.1,.bp 3 0],[.box [.i z.2.1,.i z.2.2.1,.i z.2.2.2.1,.i zh.1,.lst tRange zh.2.1,.lst tWrite zh.2.2.1,.bool zh.2.2.2.1,.str zi.1],.box [.str zi.2.1,.str zi.2.2.1],.box [.i zi.2.2.2.1,.i zj.1,.i zj.2.1,.i zj.2.2.1,.own 4,.own 5,.bool zj.2.2.2.1,.str zk.1],.box [.i zk.2.1,.i zk.2.2.1,.i zk.2.2.2.1,.i zl.1,.own 4,.own 5,.bool zl.2.1,.str zl.2.2.1],.arr tRange zl.2.2.2.1,.arr tWrite zl.2.2.2.2])
def v13:Nat→Option LoopSpec
 |5000004=>some (ctS [2,3,4,5,6] [none,none,none,none,none,none,none,none,none,none,none,none,none,none,none,none,none,none,none,some tRange,some tWrite] [.bp 0 0,.bp 1 0,.bp 2 0,.bool,.bp 3 0] [.box [.i,.i,.i,.i,.lst tRange,.lst tWrite,.bool,.str],.box [.str,.str],.box [.i,.i,.i,.i,.own 4,.own 5,.bool,.str],.box [.i,.i,.i,.i,.own 6,.own 7,.bool,.str],.arr tRange,.arr tWrite,.arr tRange,.arr tWrite] ves (fun p q=>(p.2.2.2.1,q.1.1,q.1.2.1,q.1.2.2.1,q.1.2.2.2.1,q.1.2.2.2.2.1,q.1.2.2.2.2.2.1,q.1.2.2.2.2.2.2.1,q.1.2.2.2.2.2.2.2.1,q.2.1.1,q.2.1.2.1,q.2.2.1.1,q.2.2.1.2.1,q.2.2.1.2.2.1,q.2.2.1.2.2.2.1,q.2.2.1.2.2.2.2.2.2.1,q.2.2.1.2.2.2.2.2.2.2.1,q.2.2.2.1.1,q.2.2.2.1.2.1,q.2.2.2.1.2.2.1,q.2.2.2.1.2.2.2.1,q.2.2.2.1.2.2.2.2.2.2.1,q.2.2.2.1.2.2.2.2.2.2.2.1,q.2.2.2.2.1,q.2.2.2.2.2.1,q.2.2.2.2.2.2.1,q.2.2.2.2.2.2.2.1)) (fun k=>(onE vnb k)))
 |_=>none
theorem vy4:CtAt G40 ⟨0,40,v13⟩ f149 5000004:=
 vgt rfl (fun x=>(n40n_jp5000004 x).p) vzw vzb vnb (fun _ _=>⟨rfl,rfl⟩) (fun _ _=>rfl) (fun x=>by kernel_rfl)
theorem wza:vab prog 149 wtk:=
 vaz G40_ok follows (f149.body.getD .skip) func149 (by kernel_rfl) fun p q=>⟨v13,(n40n_p ..).p.map _,by rw [wl9];kernel_rfl,vaa (ids:=[5000004]) (by kernel_rfl) (by kernel_rfl) ⟨vy4,trivial⟩⟩
def G41:Glob:=G40.add 149 wtk
theorem G41_ok:GlobOk prog G41:=G40_ok.add ⟨f149,func149,by kernel_rfl,by kernel_rfl⟩ wza
def wfv:Nat→Option LoopSpec
 |_=>none
theorem w1w:vab prog 81 wt1:=
 vaz G41_ok follows (f81.body.getD .skip) func81 (by kernel_rfl) fun p q=>⟨wfv,(n74n_p ..).p.map _,by rw [wi7];kernel_rfl,vaa (ids:=[]) (by kernel_rfl) (by kernel_rfl) trivial⟩
def G42:Glob:=G41.add 81 wt1
theorem G42_ok:GlobOk prog G42:=G41_ok.add ⟨f81,func81,by kernel_rfl,by kernel_rfl⟩ w1w
def whv:Nat→Option LoopSpec
 |_=>none
theorem w2b:vab prog 196 wtz:=
 vaz G42_ok follows (f196.body.getD .skip) func196 (by kernel_rfl) fun p q=>⟨whv,(n72n_p ..).p.map _,by rw [wpv];kernel_rfl,vaa (ids:=[]) (by kernel_rfl) (by kernel_rfl) trivial⟩
def G43:Glob:=G42.add 196 wtz
theorem G43_ok:GlobOk prog G43:=G42_ok.add ⟨f196,func196,by kernel_rfl,by kernel_rfl⟩ w2b
def vrq:q24T→List AV:=fun x=>[.lst tWrite x.1,.fn 196 [.bp 0 0],.i x.2.1,.i x.2.2.1,.i x.2.2.2.1]
def vrk:q24T→St:=fun x=>[.box [.str x.2.2.2.2]]
def vyb:Nat→Option LoopSpec
 |0=>some (lpS [0,1,4,7,8] [] [.lst tWrite,.fn 196 [.bp 0 0],.i,.i,.i] [.box [.str]] vj2 (fun p q=>(p.1,p.2.2.1,p.2.2.2.1,p.2.2.2.2.1,q.1.1)) (fun k=>(Sum.elim (onE (exZ .ret vrq vrk) k) (onE (exZ (.exit 0) vrq vrk) k))))
 |_=>none
theorem wp1:LpAt G43 ⟨1,19,vyb⟩ f195 0:=
 va2 rfl (fun x=>(n122n_bp0 x).p) vrq vrk (Sum.elim ((exZ .ret vrq vrk)) ((exZ (.exit 0) vrq vrk))) (fun _ _=>⟨rfl,rfl⟩) (fun z=>by rcases z with z|z<;>(intro h;cases h)) (fun k z=>by rcases z with z|z<;>rfl) (fun x=>by kernel_rfl)
theorem vll:vab prog 195 vfy:=
 vaz G43_ok follows (f195.body.getD .skip) func195 (by kernel_rfl) fun p q=>⟨vyb,(n122n_p ..).p.map _,by rw [waf];kernel_rfl,vaa (ids:=[0]) (by kernel_rfl) (by kernel_rfl) ⟨wp1,trivial⟩⟩
def G44:Glob:=G43.add 195 vfy
theorem G44_ok:GlobOk prog G44:=G43_ok.add ⟨f195,func195,by kernel_rfl,by kernel_rfl⟩ vll
def wf9:Nat→Option LoopSpec
 |_=>none
theorem w1c:vab prog 150 wtl:=
 vaz G44_ok follows (f150.body.getD .skip) func150 (by kernel_rfl) fun p q=>⟨wf9,(n71n_p ..).p.map _,by rw [wir];kernel_rfl,vaa (ids:=[]) (by kernel_rfl) (by kernel_rfl) trivial⟩
def G45:Glob:=G44.add 150 wtl
theorem G45_ok:GlobOk prog G45:=G44_ok.add ⟨f150,func150,by kernel_rfl,by kernel_rfl⟩ w1c
def wac:q16T→List AV:=fun x=>[.lst tVersion x.1,.str x.2.1,.i x.2.2.1,.i x.2.2.2.1,.lst tVersion x.2.2.2.2.1,.i x.2.2.2.2.2.1,.i x.2.2.2.2.2.2]
def v8w:q16T→St:=fun x=>[]
def v0z:Nat→Option LoopSpec
 |0=>some (lpS [0,1,2,7,10,11,12] [] [.lst tVersion,.str,.i,.i,.lst tVersion,.i,.i] [] vn6 (fun p q=>(p.1,p.2.1,p.2.2.1,p.2.2.2.1,p.2.2.2.2.1,p.2.2.2.2.2.1,p.2.2.2.2.2.2.1)) (fun k=>(onE (exZ (.exit 0) wac v8w) k)))
 |2000005=>some ⟨[0,2,4,6,8,10,12,14,16,18,20,22,24,26,28,30,32,34,36,38,40,42,44,46],[],fun _ _ _=>none⟩
 |_=>none
theorem ws6:LpAt G45 ⟨0,44,v0z⟩ f177 0:=
 va2 rfl (fun x=>(n70n_bp0 x).p) wac v8w (exZ (.exit 0) wac v8w) (fun _ _=>⟨rfl,rfl⟩) (fun z=>by(intro h;cases h)) (fun _ _=>rfl) (fun x=>by kernel_rfl)
theorem wz9:vab prog 177 wu5:=
 vaz G45_ok follows (f177.body.getD .skip) func177 (by kernel_rfl) fun p q=>⟨v0z,(n70n_p ..).p.map _,by rw [wol];kernel_rfl,vaa (ids:=[0]) (by kernel_rfl) (by kernel_rfl) ⟨ws6,trivial⟩⟩
def G46:Glob:=G45.add 177 wu5
theorem G46_ok:GlobOk prog G46:=G45_ok.add ⟨f177,func177,by kernel_rfl,by kernel_rfl⟩ wz9
def wgq:Nat→Option LoopSpec
 |_=>none
theorem w00:vab prog 151 wus:=
 vaz G46_ok follows (f151.body.getD .skip) func151 (by kernel_rfl) fun p q=>⟨wgq,(n47n_p ..).p.map _,by rw [wnm];kernel_rfl,vaa (ids:=[]) (by kernel_rfl) (by kernel_rfl) trivial⟩
def G47:Glob:=G46.add 151 wus
theorem G47_ok:GlobOk prog G47:=G46_ok.add ⟨f151,func151,by kernel_rfl,by kernel_rfl⟩ w00
def wgo:Nat→Option LoopSpec
 |_=>none
theorem w1o:vab prog 83 wui:=
 vaz G47_ok follows (f83.body.getD .skip) func83 (by kernel_rfl) fun p q=>⟨wgo,(n33n_p ..).p.map _,by rw [wms];kernel_rfl,vaa (ids:=[]) (by kernel_rfl) (by kernel_rfl) trivial⟩
def G48:Glob:=G47.add 83 wui
theorem G48_ok:GlobOk prog G48:=G47_ok.add ⟨f83,func83,by kernel_rfl,by kernel_rfl⟩ w1o
def wg9:Nat→Option LoopSpec
 |2000004=>some ⟨[0,2,4,6,8,10,12,14,16,19,20,22,24,26,28],[],fun _ _ _=>none⟩
 |_=>none
theorem w0x:vab prog 23 wua:=
 vaz G48_ok follows (f23.body.getD .skip) func23 (by kernel_rfl) fun p q=>⟨wg9,(n19n_p ..).p.map _,by rw [wor];kernel_rfl,vaa (ids:=[]) (by kernel_rfl) (by kernel_rfl) trivial⟩
def G49:Glob:=G48.add 23 wua
theorem G49_ok:GlobOk prog G49:=G48_ok.add ⟨f23,func23,by kernel_rfl,by kernel_rfl⟩ w0x
theorem vng:vab prog 197 veo:=by
 intro args s k r hk
 unfold veo at hk
 rw [v3f]at hk
 unfold vsp at hk
 exact v3e Tryz.insLaya (by decide) (e:=tWrite) rfl #[.string ⟨#[]⟩,.string ⟨#[]⟩,.bool false] rfl rfl args s k r hk
def G50:Glob:=G49.add 197 veo
theorem G50_ok:GlobOk prog G50:=G49_ok.add ⟨f197,func197,by kernel_rfl,by kernel_rfl⟩ vng
def vk3:q51T→List AV:=fun x=>[.bp 0 0,.own 1,.i x.1]
def vk5:q51T→St:=fun x=>[.box [.str x.2.1,.str x.2.2.1,.bool x.2.2.2.1],.arr tWrite x.2.2.2.2]
def v8y:q51T→List AV:=fun x=>[.bp 0 0,.own 1,.i x.1]
def wa4:q51T→St:=fun x=>[.box [.str x.2.1,.str x.2.2.1,.bool x.2.2.2.1],.arr tWrite x.2.2.2.2]
def vsg:Nat→Option LoopSpec
 |6000001=>some (ctS [3,5,6] [] [.bp 0 0,.own 1,.i] [.box [.str,.str,.bool],.arr tWrite] vf8 (fun p q=>(p.2.2.1,q.1.1,q.1.2.1,q.1.2.2.1,q.2.1)) (fun k=>(onE (exZ .norm vk3 vk5) k)))
 |0=>some (lpS [3,5,6] [] [.bp 0 0,.own 1,.i] [.box [.str,.str,.bool],.arr tWrite] vpm (fun p q=>(p.2.2.1,q.1.1,q.1.2.1,q.1.2.2.1,q.2.1)) (fun k=>(onE (exZ (.exit 0) v8y wa4) k)))
 |2000003=>some ⟨[0,2,4,6,8,10,12,14,16,18,20,22,24,26],[],fun _ _ _=>none⟩
 |2000005=>some ⟨[0,2,4,6,8,10,12,14,16,18,20,22,24,26],[],fun _ _ _=>none⟩
 |_=>none
theorem vzh:CtAt G50 ⟨0,49,vsg⟩ f153 6000001:=
 vgt rfl (fun x=>(n38n_jp6000001 x).p) vk3 vk5 (exZ .norm vk3 vk5) (fun _ _=>⟨rfl,rfl⟩) (fun _ _=>rfl) (fun x=>by kernel_rfl)
theorem wtc:LpAt G50 ⟨0,49,vsg⟩ f153 0:=
 va2 rfl (fun x=>(n38n_bp0 x).p) v8y wa4 (exZ (.exit 0) v8y wa4) (fun _ _=>⟨rfl,rfl⟩) (fun z=>by(intro h;cases h)) (fun _ _=>rfl) (fun x=>by kernel_rfl)
theorem wz8:vab prog 153 wub:=
 vaz G50_ok follows (f153.body.getD .skip) func153 (by kernel_rfl) fun p q=>⟨vsg,(n38n_p ..).p.map _,by rw [wln];kernel_rfl,vaa (ids:=[6000001,0]) (by kernel_rfl) (by kernel_rfl) ⟨vzh,⟨wtc,trivial⟩⟩⟩
def G51:Glob:=G50.add 153 wub
theorem G51_ok:GlobOk prog G51:=G50_ok.add ⟨f153,func153,by kernel_rfl,by kernel_rfl⟩ wz8
def vk4:q35T→List AV:=fun x=>[.bp 0 0,.bp 1 0,.bp 2 0,.bool x.1,.bp 3 0]
def vkp:q35T→St:=fun x=>let xh:=x.2.2.2.2;let xi:=xh.2.2.2.2;let xj:=xi.2.2.2.2;let xk:=xj.2.2.2.2;let xl:=xk.2.2.2.2;[.box [.i x.2.1,.i x.2.2.1,.i x.2.2.2.1,.i xh.1,.lst tRange xh.2.1,.lst tWrite xh.2.2.1,.bool xh.2.2.2.1,.str xi.1],.box [.str xi.2.1,.str xi.2.2.1,.bool xi.2.2.2.1],.box [.i xj.1,.i xj.2.1,.i xj.2.2.1,.i xj.2.2.2.1,.own 4,.own 5,.bool xk.1,.str xk.2.1],.box [.i xk.2.2.1,.i xk.2.2.2.1,.i xl.1,.i xl.2.1,.own 6,.own 7,.bool xl.2.2.1,.str xl.2.2.2.1],.arr tRange xl.2.2.2.2.1,.arr tWrite xl.2.2.2.2.2.1,.arr tRange xl.2.2.2.2.2.2.1,.arr tWrite xl.2.2.2.2.2.2.2]
def vn1:q36T→Out×List AV×St:=fun z=>let zh:=z.2.2.2.2;let zi:=zh.2.2.2.2;let zj:=zi.2.2.2.2;let zk:=zj.2.2.2.2;let zl:=zk.2.2.2.2;(.ret,[.bp 0 0,.bp 1 0,.bp 2 0,.bool z.1,.bp 3 0],[.box [.i z.2.1,.i z.2.2.1,.i z.2.2.2.1,.i zh.1,.lst tRange zh.2.1,.lst tWrite zh.2.2.1,.bool zh.2.2.2.1,.str zi.1],.box [.str zi.2.1,.str zi.2.2.1,.bool zi.2.2.2.1],.box [.i zj.1,.i zj.2.1,.i zj.2.2.1,.i zj.2.2.2.1,.own 4,.own 5,.bool zk.1,.str zk.2.1],.box [.i zk.2.2.1,.i zk.2.2.2.1,.i zl.1,.i zl.2.1,.own 4,.own 5,.bool zl.2.2.1,.str zl.2.2.2.1],.arr tRange zl.2.2.2.2.1,.arr tWrite zl.2.2.2.2.2])
def v0h:Nat→Option LoopSpec
 |5000004=>some (ctS [2,3,4,5,6] [none,none,none,none,none,none,none,none,none,none,none,none,none,none,none,none,none,none,none,none,some tRange,some tWrite] [.bp 0 0,.bp 1 0,.bp 2 0,.bool,.bp 3 0] [.box [.i,.i,.i,.i,.lst tRange,.lst tWrite,.bool,.str],.box [.str,.str,.bool],.box [.i,.i,.i,.i,.own 4,.own 5,.bool,.str],.box [.i,.i,.i,.i,.own 6,.own 7,.bool,.str],.arr tRange,.arr tWrite,.arr tRange,.arr tWrite] vev (fun p q=>(p.2.2.2.1,q.1.1,q.1.2.1,q.1.2.2.1,q.1.2.2.2.1,q.1.2.2.2.2.1,q.1.2.2.2.2.2.1,q.1.2.2.2.2.2.2.1,q.1.2.2.2.2.2.2.2.1,q.2.1.1,q.2.1.2.1,q.2.1.2.2.1,q.2.2.1.1,q.2.2.1.2.1,q.2.2.1.2.2.1,q.2.2.1.2.2.2.1,q.2.2.1.2.2.2.2.2.2.1,q.2.2.1.2.2.2.2.2.2.2.1,q.2.2.2.1.1,q.2.2.2.1.2.1,q.2.2.2.1.2.2.1,q.2.2.2.1.2.2.2.1,q.2.2.2.1.2.2.2.2.2.2.1,q.2.2.2.1.2.2.2.2.2.2.2.1,q.2.2.2.2.1,q.2.2.2.2.2.1,q.2.2.2.2.2.2.1,q.2.2.2.2.2.2.2.1)) (fun k=>(Sum.elim (onE vn1 k) (onE (exZ .ret vk4 vkp) k))))
 |_=>none
theorem vzf:CtAt G51 ⟨0,34,v0h⟩ f86 5000004:=
 vgt rfl (fun x=>(n57n_jp5000004 x).p) vk4 vkp (Sum.elim (vn1) ((exZ .ret vk4 vkp))) (fun _ _=>⟨rfl,rfl⟩) (fun k z=>by rcases z with z|z<;>rfl) (fun x=>by kernel_rfl)
theorem wzy:vab prog 86 wvo:=
 vaz G51_ok follows (f86.body.getD .skip) func86 (by kernel_rfl) fun p q=>⟨v0h,(n57n_p ..).p.map _,by rw [wlv];kernel_rfl,vaa (ids:=[5000004]) (by kernel_rfl) (by kernel_rfl) ⟨vzf,trivial⟩⟩
def G52:Glob:=G51.add 86 wvo
theorem G52_ok:GlobOk prog G52:=G51_ok.add ⟨f86,func86,by kernel_rfl,by kernel_rfl⟩ wzy
def wfs:Nat→Option LoopSpec
 |_=>none
theorem w2c:vab prog 24 wum:=
 vaz G52_ok follows (f24.body.getD .skip) func24 (by kernel_rfl) fun p q=>⟨wfs,(n35n_p ..).p.map _,by rw [wk4];kernel_rfl,vaa (ids:=[]) (by kernel_rfl) (by kernel_rfl) trivial⟩
def G53:Glob:=G52.add 24 wum
theorem G53_ok:GlobOk prog G53:=G52_ok.add ⟨f24,func24,by kernel_rfl,by kernel_rfl⟩ w2c
def wf1:Nat→Option LoopSpec
 |_=>none
theorem wzz:vab prog 100 wvi:=
 vaz G53_ok follows (f100.body.getD .skip) func100 (by kernel_rfl) fun p q=>⟨wf1,(n42n_p ..).p.map _,by rw [wl4];kernel_rfl,vaa (ids:=[]) (by kernel_rfl) (by kernel_rfl) trivial⟩
def G54:Glob:=G53.add 100 wvi
theorem G54_ok:GlobOk prog G54:=G53_ok.add ⟨f100,func100,by kernel_rfl,by kernel_rfl⟩ wzz
def vr1:q6T→List AV:=fun x=>[.lst tTxn x.1,.fn 100 [.bp 0 0],.i x.2.1,.i x.2.2.1,.i x.2.2.2.1]
def vq1:q6T→St:=fun x=>[.box [.str x.2.2.2.2]]
def vw5:Nat→Option LoopSpec
 |0=>some (lpS [0,1,4,7,8] [] [.lst tTxn,.fn 100 [.bp 0 0],.i,.i,.i] [.box [.str]] vkb (fun p q=>(p.1,p.2.2.1,p.2.2.2.1,p.2.2.2.2.1,q.1.1)) (fun k=>(Sum.elim (onE (exZ .ret vr1 vq1) k) (onE (exZ (.exit 0) vr1 vq1) k))))
 |_=>none
theorem wlg:LpAt G54 ⟨1,19,vw5⟩ f99 0:=
 va2 rfl (fun x=>(n113n_bp0 x).p) vr1 vq1 (Sum.elim ((exZ .ret vr1 vq1)) ((exZ (.exit 0) vr1 vq1))) (fun _ _=>⟨rfl,rfl⟩) (fun z=>by rcases z with z|z<;>(intro h;cases h)) (fun k z=>by rcases z with z|z<;>rfl) (fun x=>by kernel_rfl)
theorem vgv:vab prog 99 vcq:=by
 refine vfc G54_ok follows func99 (c:=f99.body.getD .skip) (by kernel_rfl) vgk ?_
 intro args s k r hk
 unfold vcq at hk
 rcases vam hk with⟨p,q,rfl,rfl⟩|hk
 ·exact .inl ⟨vw5,(n113n_p p.1 q.1.1).p.map _,by unfold vcq;rw [wae];kernel_rfl,vaa (ids:=[0]) (by kernel_rfl) (by kernel_rfl) ⟨wlg,trivial⟩⟩
 exact .inr hk
def G55:Glob:=G54.add 99 vcq
theorem G55_ok:GlobOk prog G55:=G54_ok.add ⟨f99,func99,by kernel_rfl,by kernel_rfl⟩ vgv
def wgu:Nat→Option LoopSpec
 |_=>none
theorem w06:vab prog 31 wtm:=
 vaz G55_ok follows (f31.body.getD .skip) func31 (by kernel_rfl) fun p q=>⟨wgu,(n41n_p ..).p.map _,by rw [wlq];kernel_rfl,vaa (ids:=[]) (by kernel_rfl) (by kernel_rfl) trivial⟩
def G56:Glob:=G55.add 31 wtm
theorem G56_ok:GlobOk prog G56:=G55_ok.add ⟨f31,func31,by kernel_rfl,by kernel_rfl⟩ w06
def why:Nat→Option LoopSpec
 |_=>none
theorem w0u:vab prog 89 wu4:=
 vaz G56_ok follows (f89.body.getD .skip) func89 (by kernel_rfl) fun p q=>⟨why,(n73n_p _).p.map2 _ _,by rw [wkl];kernel_rfl,vaa (ids:=[]) (by kernel_rfl) (by kernel_rfl) trivial⟩
def G57:Glob:=G56.add 89 wu4
theorem G57_ok:GlobOk prog G57:=G56_ok.add ⟨f89,func89,by kernel_rfl,by kernel_rfl⟩ w0u
def vym:q22T→List AV:=fun x=>[.lst tWrite x.1,.bool x.2.1,.bp 0 0,.lst tWrite x.2.2.1,.i x.2.2.2.1,.i x.2.2.2.2.1,.lst tWrite x.2.2.2.2.2.1,.i x.2.2.2.2.2.2.1,.i x.2.2.2.2.2.2.2.1]
def vx1:q22T→St:=fun x=>[.box [.str x.2.2.2.2.2.2.2.2.1,.str x.2.2.2.2.2.2.2.2.2.1,.bool x.2.2.2.2.2.2.2.2.2.2]]
def vvq:q23T→List AV:=fun x=>[.lst tWrite x.1,.bool x.2.1,.lst tWrite x.2.2.1,.i x.2.2.2.1,.i x.2.2.2.2]
def vwc:q23T→St:=fun x=>[]
def vsl:Nat→Option LoopSpec
 |2=>some (lpS [1,4,6,9,10,11,15,16,17] [] [.lst tWrite,.bool,.bp 0 0,.lst tWrite,.i,.i,.lst tWrite,.i,.i] [.box [.str,.str,.bool]] vn8 (fun p q=>(p.1,p.2.1,p.2.2.2.1,p.2.2.2.2.1,p.2.2.2.2.2.1,p.2.2.2.2.2.2.1,p.2.2.2.2.2.2.2.1,p.2.2.2.2.2.2.2.2.1,q.1.1,q.1.2.1,q.1.2.2.1)) (fun k=>(Sum.elim (onE (exZ .ret vym vx1) k) (onE (exZ (.exit 2) vym vx1) k))))
 |0=>some (lpS [1,4,9,10,11] [] [.lst tWrite,.bool,.lst tWrite,.i,.i] [] voa (fun p q=>(p.1,p.2.1,p.2.2.1,p.2.2.2.1,p.2.2.2.2.1)) (fun k=>(Sum.elim (onE (exZ (.exit 0) vvq vwc) k) (onE (exZ .ret vvq vwc) k))))
 |_=>none
theorem wrt:LpAt G57 ⟨0,28,vsl⟩ f199 2:=
 va2 rfl (fun x=>(n27n_bp2 x).p) vym vx1 (Sum.elim ((exZ .ret vym vx1)) ((exZ (.exit 2) vym vx1))) (fun _ _=>⟨rfl,rfl⟩) (fun z=>by rcases z with z|z<;>(intro h;cases h)) (fun k z=>by rcases z with z|z<;>rfl) (fun x=>by kernel_rfl)
theorem wrq:LpAt G57 ⟨0,28,vsl⟩ f199 0:=
 va2 rfl (fun x=>(n27n_bp0 x).p) vvq vwc (Sum.elim ((exZ (.exit 0) vvq vwc)) ((exZ .ret vvq vwc))) (fun _ _=>⟨rfl,rfl⟩) (fun z=>by rcases z with z|z<;>(intro h;cases h)) (fun k z=>by rcases z with z|z<;>rfl) (fun x=>by kernel_rfl)
theorem wy6:vab prog 199 wvy:=
 vaz G57_ok follows (f199.body.getD .skip) func199 (by kernel_rfl) fun p q=>⟨vsl,(n27n_p ..).p.map _,by rw [wm0];kernel_rfl,vaa (ids:=[2,0]) (by kernel_rfl) (by kernel_rfl) ⟨wrt,⟨wrq,trivial⟩⟩⟩
def G58:Glob:=G57.add 199 wvy
theorem G58_ok:GlobOk prog G58:=G57_ok.add ⟨f199,func199,by kernel_rfl,by kernel_rfl⟩ wy6
def wgb:Nat→Option LoopSpec
 |_=>none
theorem wzr:vab prog 198 wt5:=
 vaz G58_ok follows (f198.body.getD .skip) func198 (by kernel_rfl) fun p q=>⟨wgb,(n11n_p ..).p.map _,by rw [wpx];kernel_rfl,vaa (ids:=[]) (by kernel_rfl) (by kernel_rfl) trivial⟩
def G59:Glob:=G58.add 198 wt5
theorem G59_ok:GlobOk prog G59:=G58_ok.add ⟨f198,func198,by kernel_rfl,by kernel_rfl⟩ wzr
def vq2:q10T→List AV:=fun x=>[.lst tTxn x.1,.fn 198 [.bp 0 0],.i x.2.1,.i x.2.2.1,.i x.2.2.2.1]
def vqw:q10T→St:=fun x=>let xh:=x.2.2.2.2;[.box [.i xh.1,.i xh.2.1,.i xh.2.2.1,.i xh.2.2.2.1,.lst tRange xh.2.2.2.2.1,.lst tWrite xh.2.2.2.2.2.1,.bool xh.2.2.2.2.2.2.1,.str xh.2.2.2.2.2.2.2]]
def vx7:Nat→Option LoopSpec
 |0=>some (lpS [0,1,4,7,8] [] [.lst tTxn,.fn 198 [.bp 0 0],.i,.i,.i] [.box [.i,.i,.i,.i,.lst tRange,.lst tWrite,.bool,.str]] vjb (fun p q=>(p.1,p.2.2.1,p.2.2.2.1,p.2.2.2.2.1,q.1.1,q.1.2.1,q.1.2.2.1,q.1.2.2.2.1,q.1.2.2.2.2.1,q.1.2.2.2.2.2.1,q.1.2.2.2.2.2.2.1,q.1.2.2.2.2.2.2.2.1)) (fun k=>(Sum.elim (onE (exZ .ret vq2 vqw) k) (onE (exZ (.exit 0) vq2 vqw) k))))
 |_=>none
theorem wjb:LpAt G59 ⟨1,19,vx7⟩ f99 0:=
 va2 rfl (fun x=>(n106n_bp0 x).p) vq2 vqw (Sum.elim ((exZ .ret vq2 vqw)) ((exZ (.exit 0) vq2 vqw))) (fun _ _=>⟨rfl,rfl⟩) (fun z=>by rcases z with z|z<;>(intro h;cases h)) (fun k z=>by rcases z with z|z<;>rfl) (fun x=>by kernel_rfl)
theorem vgl:vab prog 99 vcr:=by
 refine vfc G59_ok follows func99 (c:=f99.body.getD .skip) (by kernel_rfl) vgv ?_
 intro args s k r hk
 unfold vcr at hk
 rcases vam hk with⟨p,q,rfl,rfl⟩|hk
 ·exact .inl ⟨vx7,(n106n_p p.1 q.1.1 q.1.2.1 q.1.2.2.1 q.1.2.2.2.1 q.1.2.2.2.2.1 q.1.2.2.2.2.2.1 q.1.2.2.2.2.2.2.1 q.1.2.2.2.2.2.2.2.1).p.map _,by unfold vcr;rw [wa2];kernel_rfl,vaa (ids:=[0]) (by kernel_rfl) (by kernel_rfl) ⟨wjb,trivial⟩⟩
 exact .inr hk
def G60:Glob:=G59.add 99 vcr
theorem G60_ok:GlobOk prog G60:=G59_ok.add ⟨f99,func99,by kernel_rfl,by kernel_rfl⟩ vgl
def wgx:Nat→Option LoopSpec
 |_=>none
theorem ve7:vab prog 204 vby:=by
 refine vfc G60_ok follows func204 (c:=f204.body.getD .skip) (by kernel_rfl) vfd ?_
 intro args s k r hk
 unfold vby at hk
 rcases vam hk with⟨p,q,rfl,rfl⟩|hk
 ·exact .inl ⟨wgx,(n91n_p p.1 q.1.1 q.1.2.1 q.1.2.2.1 q.1.2.2.2.1 q.1.2.2.2.2.1 q.1.2.2.2.2.2.1 q.1.2.2.2.2.2.2.1 q.1.2.2.2.2.2.2.2.1).p.map _,by unfold vby;rw [wm7];kernel_rfl,vaa (ids:=[]) (by kernel_rfl) (by kernel_rfl) trivial⟩
 exact .inr hk
def G61:Glob:=G60.add 204 vby
theorem G61_ok:GlobOk prog G61:=G60_ok.add ⟨f204,func204,by kernel_rfl,by kernel_rfl⟩ ve7
def whl:Nat→Option LoopSpec
 |_=>none
theorem vtf:vab prog 159 vha:=by
 refine vfc G61_ok follows func159 (c:=f159.body.getD .skip) (by kernel_rfl) vx5 ?_
 intro args s k r hk
 unfold vha at hk
 rcases vam hk with⟨p,q,rfl,rfl⟩|hk
 ·exact .inl ⟨whl,(n75n_p p.1 q.1.1 q.1.2.1 q.1.2.2.1 q.1.2.2.2.1 q.1.2.2.2.2.1 q.1.2.2.2.2.2.1 q.1.2.2.2.2.2.2.1 q.1.2.2.2.2.2.2.2.1).p.map _,by unfold vha;rw [wjc];kernel_rfl,vaa (ids:=[]) (by kernel_rfl) (by kernel_rfl) trivial⟩
 exact .inr hk
def G62:Glob:=G61.add 159 vha
theorem G62_ok:GlobOk prog G62:=G61_ok.add ⟨f159,func159,by kernel_rfl,by kernel_rfl⟩ vtf
def wfy:Nat→Option LoopSpec
 |_=>none
theorem w0w:vab prog 154 wu1:=
 vaz G62_ok follows (f154.body.getD .skip) func154 (by kernel_rfl) fun p q=>⟨wfy,(n10n_p ..).p.map _,by rw [wja];kernel_rfl,vaa (ids:=[]) (by kernel_rfl) (by kernel_rfl) trivial⟩
def G63:Glob:=G62.add 154 wu1
theorem G63_ok:GlobOk prog G63:=G62_ok.add ⟨f154,func154,by kernel_rfl,by kernel_rfl⟩ w0w
def wg2:Nat→Option LoopSpec
 |_=>none
theorem wzd:vab prog 219 wv1:=
 vaz G63_ok follows (f219.body.getD .skip) func219 (by kernel_rfl) fun p q=>⟨wg2,(n09n_p ..).p.map _,by rw [wlk];kernel_rfl,vaa (ids:=[]) (by kernel_rfl) (by kernel_rfl) trivial⟩
def G64:Glob:=G63.add 219 wv1
theorem G64_ok:GlobOk prog G64:=G63_ok.add ⟨f219,func219,by kernel_rfl,by kernel_rfl⟩ wzd
def wgi:Nat→Option LoopSpec
 |_=>none
theorem w11:vab prog 185 wuc:=
 vaz G64_ok follows (f185.body.getD .skip) func185 (by kernel_rfl) fun p q=>⟨wgi,(n08n_p ..).p.map _,by rw [wk3];kernel_rfl,vaa (ids:=[]) (by kernel_rfl) (by kernel_rfl) trivial⟩
def G65:Glob:=G64.add 185 wuc
theorem G65_ok:GlobOk prog G65:=G64_ok.add ⟨f185,func185,by kernel_rfl,by kernel_rfl⟩ w11
def wgc:Nat→Option LoopSpec
 |_=>none
theorem w12:vab prog 220 wvm:=
 vaz G65_ok follows (f220.body.getD .skip) func220 (by kernel_rfl) fun p q=>⟨wgc,(n22n_p ..).p.map _,by rw [wpq];kernel_rfl,vaa (ids:=[]) (by kernel_rfl) (by kernel_rfl) trivial⟩
def G66:Glob:=G65.add 220 wvm
theorem G66_ok:GlobOk prog G66:=G65_ok.add ⟨f220,func220,by kernel_rfl,by kernel_rfl⟩ w12
def vxr:q20T→List AV:=fun x=>[.lst tWrite x.1,.bool x.2.1,.bp 0 0,.lst tRange x.2.2.1,.i x.2.2.2.1,.i x.2.2.2.2.1,.lst tWrite x.2.2.2.2.2.1,.i x.2.2.2.2.2.2.1,.i x.2.2.2.2.2.2.2.1]
def vyq:q20T→St:=fun x=>[.box [.str x.2.2.2.2.2.2.2.2.1,.str x.2.2.2.2.2.2.2.2.2]]
def vxx:q21T→List AV:=fun x=>[.lst tWrite x.1,.bool x.2.1,.lst tRange x.2.2.1,.i x.2.2.2.1,.i x.2.2.2.2]
def vxe:q21T→St:=fun x=>[]
def vst:Nat→Option LoopSpec
 |2=>some (lpS [1,4,6,9,10,11,15,16,17] [] [.lst tWrite,.bool,.bp 0 0,.lst tRange,.i,.i,.lst tWrite,.i,.i] [.box [.str,.str]] vmw (fun p q=>(p.1,p.2.1,p.2.2.2.1,p.2.2.2.2.1,p.2.2.2.2.2.1,p.2.2.2.2.2.2.1,p.2.2.2.2.2.2.2.1,p.2.2.2.2.2.2.2.2.1,q.1.1,q.1.2.1)) (fun k=>(Sum.elim (onE (exZ .ret vxr vyq) k) (onE (exZ (.exit 2) vxr vyq) k))))
 |0=>some (lpS [1,4,9,10,11] [] [.lst tWrite,.bool,.lst tRange,.i,.i] [] vn3 (fun p q=>(p.1,p.2.1,p.2.2.1,p.2.2.2.1,p.2.2.2.2.1)) (fun k=>(Sum.elim (onE (exZ (.exit 0) vxx vxe) k) (onE (exZ .ret vxx vxe) k))))
 |_=>none
theorem wti:LpAt G66 ⟨0,27,vst⟩ f186 2:=
 va2 rfl (fun x=>(n52n_bp2 x).p) vxr vyq (Sum.elim ((exZ .ret vxr vyq)) ((exZ (.exit 2) vxr vyq))) (fun _ _=>⟨rfl,rfl⟩) (fun z=>by rcases z with z|z<;>(intro h;cases h)) (fun k z=>by rcases z with z|z<;>rfl) (fun x=>by kernel_rfl)
theorem wr9:LpAt G66 ⟨0,27,vst⟩ f186 0:=
 va2 rfl (fun x=>(n52n_bp0 x).p) vxx vxe (Sum.elim ((exZ (.exit 0) vxx vxe)) ((exZ .ret vxx vxe))) (fun _ _=>⟨rfl,rfl⟩) (fun z=>by rcases z with z|z<;>(intro h;cases h)) (fun k z=>by rcases z with z|z<;>rfl) (fun x=>by kernel_rfl)
theorem w0q:vab prog 186 wu3:=
 vaz G66_ok follows (f186.body.getD .skip) func186 (by kernel_rfl) fun p q=>⟨vst,(n52n_p ..).p.map _,by rw [wlp];kernel_rfl,vaa (ids:=[2,0]) (by kernel_rfl) (by kernel_rfl) ⟨wti,⟨wr9,trivial⟩⟩⟩
def G67:Glob:=G66.add 186 wu3
theorem G67_ok:GlobOk prog G67:=G66_ok.add ⟨f186,func186,by kernel_rfl,by kernel_rfl⟩ w0q
def wgv:Nat→Option LoopSpec
 |_=>none
theorem w0h:vab prog 123 wup:=
 vaz G67_ok follows (f123.body.getD .skip) func123 (by kernel_rfl) fun p q=>⟨wgv,(n04n_p ..).p.map _,by rw [wjy];kernel_rfl,vaa (ids:=[]) (by kernel_rfl) (by kernel_rfl) trivial⟩
def G68:Glob:=G67.add 123 wup
theorem G68_ok:GlobOk prog G68:=G67_ok.add ⟨f123,func123,by kernel_rfl,by kernel_rfl⟩ w0h
def wh7:Nat→Option LoopSpec
 |_=>none
theorem w0m:vab prog 203 wvw:=
 vaz G68_ok follows (f203.body.getD .skip) func203 (by kernel_rfl) fun p q=>⟨wh7,(n21n_p ..).p.map _,by rw [wpf];kernel_rfl,vaa (ids:=[]) (by kernel_rfl) (by kernel_rfl) trivial⟩
def G69:Glob:=G68.add 203 wvw
theorem G69_ok:GlobOk prog G69:=G68_ok.add ⟨f203,func203,by kernel_rfl,by kernel_rfl⟩ w0m
def vre:q10T→List AV:=fun x=>[.lst tTxn x.1,.fn 203 [.bp 0 0],.i x.2.1,.i x.2.2.1,.i x.2.2.2.1]
def vqz:q10T→St:=fun x=>let xh:=x.2.2.2.2;[.box [.i xh.1,.i xh.2.1,.i xh.2.2.1,.i xh.2.2.2.1,.lst tRange xh.2.2.2.2.1,.lst tWrite xh.2.2.2.2.2.1,.bool xh.2.2.2.2.2.2.1,.str xh.2.2.2.2.2.2.2]]
def vwk:Nat→Option LoopSpec
 |0=>some (lpS [0,1,4,7,8] [] [.lst tTxn,.fn 203 [.bp 0 0],.i,.i,.i] [.box [.i,.i,.i,.i,.lst tRange,.lst tWrite,.bool,.str]] vj6 (fun p q=>(p.1,p.2.2.1,p.2.2.2.1,p.2.2.2.2.1,q.1.1,q.1.2.1,q.1.2.2.1,q.1.2.2.2.1,q.1.2.2.2.2.1,q.1.2.2.2.2.2.1,q.1.2.2.2.2.2.2.1,q.1.2.2.2.2.2.2.2.1)) (fun k=>(Sum.elim (onE (exZ .ret vre vqz) k) (onE (exZ (.exit 0) vre vqz) k))))
 |_=>none
theorem wla:LpAt G69 ⟨1,19,vwk⟩ f99 0:=
 va2 rfl (fun x=>(n110n_bp0 x).p) vre vqz (Sum.elim ((exZ .ret vre vqz)) ((exZ (.exit 0) vre vqz))) (fun _ _=>⟨rfl,rfl⟩) (fun z=>by rcases z with z|z<;>(intro h;cases h)) (fun k z=>by rcases z with z|z<;>rfl) (fun x=>by kernel_rfl)
theorem vgp:vab prog 99 vco:=by
 refine vfc G69_ok follows func99 (c:=f99.body.getD .skip) (by kernel_rfl) vgl ?_
 intro args s k r hk
 unfold vco at hk
 rcases vam hk with⟨p,q,rfl,rfl⟩|hk
 ·exact .inl ⟨vwk,(n110n_p p.1 q.1.1 q.1.2.1 q.1.2.2.1 q.1.2.2.2.1 q.1.2.2.2.2.1 q.1.2.2.2.2.2.1 q.1.2.2.2.2.2.2.1 q.1.2.2.2.2.2.2.2.1).p.map _,by unfold vco;rw [wbj];kernel_rfl,vaa (ids:=[0]) (by kernel_rfl) (by kernel_rfl) ⟨wla,trivial⟩⟩
 exact .inr hk
def G70:Glob:=G69.add 99 vco
theorem G70_ok:GlobOk prog G70:=G69_ok.add ⟨f99,func99,by kernel_rfl,by kernel_rfl⟩ vgp
def wg7:Nat→Option LoopSpec
 |_=>none
theorem ve5:vab prog 204 vb1:=by
 refine vfc G70_ok follows func204 (c:=f204.body.getD .skip) (by kernel_rfl) ve7 ?_
 intro args s k r hk
 unfold vb1 at hk
 rcases vam hk with⟨p,q,rfl,rfl⟩|hk
 ·exact .inl ⟨wg7,(n95n_p p.1 q.1.1 q.1.2.1 q.1.2.2.1 q.1.2.2.2.1 q.1.2.2.2.2.1 q.1.2.2.2.2.2.1 q.1.2.2.2.2.2.2.1 q.1.2.2.2.2.2.2.2.1).p.map _,by unfold vb1;rw [wn7];kernel_rfl,vaa (ids:=[]) (by kernel_rfl) (by kernel_rfl) trivial⟩
 exact .inr hk
def G71:Glob:=G70.add 204 vb1
theorem G71_ok:GlobOk prog G71:=G70_ok.add ⟨f204,func204,by kernel_rfl,by kernel_rfl⟩ ve5
def whd:Nat→Option LoopSpec
 |_=>none
theorem vt5:vab prog 159 vhm:=by
 refine vfc G71_ok follows func159 (c:=f159.body.getD .skip) (by kernel_rfl) vtf ?_
 intro args s k r hk
 unfold vhm at hk
 rcases vam hk with⟨p,q,rfl,rfl⟩|hk
 ·exact .inl ⟨whd,(n79n_p p.1 q.1.1 q.1.2.1 q.1.2.2.1 q.1.2.2.2.1 q.1.2.2.2.2.1 q.1.2.2.2.2.2.1 q.1.2.2.2.2.2.2.1 q.1.2.2.2.2.2.2.2.1).p.map _,by unfold vhm;rw [wod];kernel_rfl,vaa (ids:=[]) (by kernel_rfl) (by kernel_rfl) trivial⟩
 exact .inr hk
def G72:Glob:=G71.add 159 vhm
theorem G72_ok:GlobOk prog G72:=G71_ok.add ⟨f159,func159,by kernel_rfl,by kernel_rfl⟩ vt5
def wfr:Nat→Option LoopSpec
 |_=>none
theorem w0g:vab prog 158 wvf:=
 vaz G72_ok follows (f158.body.getD .skip) func158 (by kernel_rfl) fun p q=>⟨wfr,(n20n_p ..).p.map _,by rw [wkc];kernel_rfl,vaa (ids:=[]) (by kernel_rfl) (by kernel_rfl) trivial⟩
def G73:Glob:=G72.add 158 wvf
theorem G73_ok:GlobOk prog G73:=G72_ok.add ⟨f158,func158,by kernel_rfl,by kernel_rfl⟩ w0g
def wgk:Nat→Option LoopSpec
 |_=>none
theorem w05:vab prog 170 wtr:=
 vaz G73_ok follows (f170.body.getD .skip) func170 (by kernel_rfl) fun p q=>⟨wgk,(n32n_p ..).p.map _,by rw [wjt];kernel_rfl,vaa (ids:=[]) (by kernel_rfl) (by kernel_rfl) trivial⟩
def G74:Glob:=G73.add 170 wtr
theorem G74_ok:GlobOk prog G74:=G73_ok.add ⟨f170,func170,by kernel_rfl,by kernel_rfl⟩ w05
def vrt:q10T→List AV:=fun x=>[.lst tTxn x.1,.fn 170 [.bp 0 0],.i x.2.1,.i x.2.2.1,.i x.2.2.2.1]
def vrd:q10T→St:=fun x=>let xh:=x.2.2.2.2;[.box [.i xh.1,.i xh.2.1,.i xh.2.2.1,.i xh.2.2.2.1,.lst tRange xh.2.2.2.2.1,.lst tWrite xh.2.2.2.2.2.1,.bool xh.2.2.2.2.2.2.1,.str xh.2.2.2.2.2.2.2]]
def vxp:Nat→Option LoopSpec
 |0=>some (lpS [0,1,4,7,8] [] [.lst tTxn,.fn 170 [.bp 0 0],.i,.i,.i] [.box [.i,.i,.i,.i,.lst tRange,.lst tWrite,.bool,.str]] vjr (fun p q=>(p.1,p.2.2.1,p.2.2.2.1,p.2.2.2.2.1,q.1.1,q.1.2.1,q.1.2.2.1,q.1.2.2.2.1,q.1.2.2.2.2.1,q.1.2.2.2.2.2.1,q.1.2.2.2.2.2.2.1,q.1.2.2.2.2.2.2.2.1)) (fun k=>(Sum.elim (onE (exZ .ret vrt vrd) k) (onE (exZ (.exit 0) vrt vrd) k))))
 |_=>none
theorem wj9:LpAt G74 ⟨1,19,vxp⟩ f99 0:=
 va2 rfl (fun x=>(n112n_bp0 x).p) vrt vrd (Sum.elim ((exZ .ret vrt vrd)) ((exZ (.exit 0) vrt vrd))) (fun _ _=>⟨rfl,rfl⟩) (fun z=>by rcases z with z|z<;>(intro h;cases h)) (fun k z=>by rcases z with z|z<;>rfl) (fun x=>by kernel_rfl)
theorem vgj:vab prog 99 vcw:=by
 refine vfc G74_ok follows func99 (c:=f99.body.getD .skip) (by kernel_rfl) vgp ?_
 intro args s k r hk
 unfold vcw at hk
 rcases vam hk with⟨p,q,rfl,rfl⟩|hk
 ·exact .inl ⟨vxp,(n112n_p p.1 q.1.1 q.1.2.1 q.1.2.2.1 q.1.2.2.2.1 q.1.2.2.2.2.1 q.1.2.2.2.2.2.1 q.1.2.2.2.2.2.2.1 q.1.2.2.2.2.2.2.2.1).p.map _,by unfold vcw;rw [wal];kernel_rfl,vaa (ids:=[0]) (by kernel_rfl) (by kernel_rfl) ⟨wj9,trivial⟩⟩
 exact .inr hk
def G75:Glob:=G74.add 99 vcw
theorem G75_ok:GlobOk prog G75:=G74_ok.add ⟨f99,func99,by kernel_rfl,by kernel_rfl⟩ vgj
def wic:Nat→Option LoopSpec
 |_=>none
theorem vez:vab prog 204 vbz:=by
 refine vfc G75_ok follows func204 (c:=f204.body.getD .skip) (by kernel_rfl) ve5 ?_
 intro args s k r hk
 unfold vbz at hk
 rcases vam hk with⟨p,q,rfl,rfl⟩|hk
 ·exact .inl ⟨wic,(n96n_p p.1 q.1.1 q.1.2.1 q.1.2.2.1 q.1.2.2.2.1 q.1.2.2.2.2.1 q.1.2.2.2.2.2.1 q.1.2.2.2.2.2.2.1 q.1.2.2.2.2.2.2.2.1).p.map _,by unfold vbz;rw [wmj];kernel_rfl,vaa (ids:=[]) (by kernel_rfl) (by kernel_rfl) trivial⟩
 exact .inr hk
def G76:Glob:=G75.add 204 vbz
theorem G76_ok:GlobOk prog G76:=G75_ok.add ⟨f204,func204,by kernel_rfl,by kernel_rfl⟩ vez
def whq:Nat→Option LoopSpec
 |_=>none
theorem vt3:vab prog 159 vhn:=by
 refine vfc G76_ok follows func159 (c:=f159.body.getD .skip) (by kernel_rfl) vt5 ?_
 intro args s k r hk
 unfold vhn at hk
 rcases vam hk with⟨p,q,rfl,rfl⟩|hk
 ·exact .inl ⟨whq,(n80n_p p.1 q.1.1 q.1.2.1 q.1.2.2.1 q.1.2.2.2.1 q.1.2.2.2.2.1 q.1.2.2.2.2.2.1 q.1.2.2.2.2.2.2.1 q.1.2.2.2.2.2.2.2.1).p.map _,by unfold vhn;rw [wke];kernel_rfl,vaa (ids:=[]) (by kernel_rfl) (by kernel_rfl) trivial⟩
 exact .inr hk
def G77:Glob:=G76.add 159 vhn
theorem G77_ok:GlobOk prog G77:=G76_ok.add ⟨f159,func159,by kernel_rfl,by kernel_rfl⟩ vt3
def wf4:Nat→Option LoopSpec
 |_=>none
theorem w1g:vab prog 98 wvq:=
 vaz G77_ok follows (f98.body.getD .skip) func98 (by kernel_rfl) fun p q=>⟨wf4,(n31n_p ..).p.map _,by rw [wi3];kernel_rfl,vaa (ids:=[]) (by kernel_rfl) (by kernel_rfl) trivial⟩
def G78:Glob:=G77.add 98 wvq
theorem G78_ok:GlobOk prog G78:=G77_ok.add ⟨f98,func98,by kernel_rfl,by kernel_rfl⟩ w1g
def wim:Nat→Option LoopSpec
 |_=>none
theorem wzn:vab prog 200 wvu:=
 vaz G78_ok follows (f200.body.getD .skip) func200 (by kernel_rfl) fun p q=>⟨wim,(n14n_p ..).p.map _,by rw [wpj];kernel_rfl,vaa (ids:=[]) (by kernel_rfl) (by kernel_rfl) trivial⟩
def G79:Glob:=G78.add 200 wvu
theorem G79_ok:GlobOk prog G79:=G78_ok.add ⟨f200,func200,by kernel_rfl,by kernel_rfl⟩ wzn
def vqi:q10T→List AV:=fun x=>[.lst tTxn x.1,.fn 200 [.bp 0 0],.i x.2.1,.i x.2.2.1,.i x.2.2.2.1]
def vry:q10T→St:=fun x=>let xh:=x.2.2.2.2;[.box [.i xh.1,.i xh.2.1,.i xh.2.2.1,.i xh.2.2.2.1,.lst tRange xh.2.2.2.2.1,.lst tWrite xh.2.2.2.2.2.1,.bool xh.2.2.2.2.2.2.1,.str xh.2.2.2.2.2.2.2]]
def vxo:Nat→Option LoopSpec
 |0=>some (lpS [0,1,4,7,8] [] [.lst tTxn,.fn 200 [.bp 0 0],.i,.i,.i] [.box [.i,.i,.i,.i,.lst tRange,.lst tWrite,.bool,.str]] vjs (fun p q=>(p.1,p.2.2.1,p.2.2.2.1,p.2.2.2.2.1,q.1.1,q.1.2.1,q.1.2.2.1,q.1.2.2.2.1,q.1.2.2.2.2.1,q.1.2.2.2.2.2.1,q.1.2.2.2.2.2.2.1,q.1.2.2.2.2.2.2.2.1)) (fun k=>(Sum.elim (onE (exZ .ret vqi vry) k) (onE (exZ (.exit 0) vqi vry) k))))
 |_=>none
theorem wk1:LpAt G79 ⟨1,19,vxo⟩ f99 0:=
 va2 rfl (fun x=>(n107n_bp0 x).p) vqi vry (Sum.elim ((exZ .ret vqi vry)) ((exZ (.exit 0) vqi vry))) (fun _ _=>⟨rfl,rfl⟩) (fun z=>by rcases z with z|z<;>(intro h;cases h)) (fun k z=>by rcases z with z|z<;>rfl) (fun x=>by kernel_rfl)
theorem vgn:vab prog 99 vcx:=by
 refine vfc G79_ok follows func99 (c:=f99.body.getD .skip) (by kernel_rfl) vgj ?_
 intro args s k r hk
 unfold vcx at hk
 rcases vam hk with⟨p,q,rfl,rfl⟩|hk
 ·exact .inl ⟨vxo,(n107n_p p.1 q.1.1 q.1.2.1 q.1.2.2.1 q.1.2.2.2.1 q.1.2.2.2.2.1 q.1.2.2.2.2.2.1 q.1.2.2.2.2.2.2.1 q.1.2.2.2.2.2.2.2.1).p.map _,by unfold vcx;rw [v9o];kernel_rfl,vaa (ids:=[0]) (by kernel_rfl) (by kernel_rfl) ⟨wk1,trivial⟩⟩
 exact .inr hk
def G80:Glob:=G79.add 99 vcx
theorem G80_ok:GlobOk prog G80:=G79_ok.add ⟨f99,func99,by kernel_rfl,by kernel_rfl⟩ vgn
def wh0:Nat→Option LoopSpec
 |_=>none
theorem ve1:vab prog 204 vbw:=by
 refine vfc G80_ok follows func204 (c:=f204.body.getD .skip) (by kernel_rfl) vez ?_
 intro args s k r hk
 unfold vbw at hk
 rcases vam hk with⟨p,q,rfl,rfl⟩|hk
 ·exact .inl ⟨wh0,(n92n_p p.1 q.1.1 q.1.2.1 q.1.2.2.1 q.1.2.2.2.1 q.1.2.2.2.2.1 q.1.2.2.2.2.2.1 q.1.2.2.2.2.2.2.1 q.1.2.2.2.2.2.2.2.1).p.map _,by unfold vbw;rw [wmg];kernel_rfl,vaa (ids:=[]) (by kernel_rfl) (by kernel_rfl) trivial⟩
 exact .inr hk
def G81:Glob:=G80.add 204 vbw
theorem G81_ok:GlobOk prog G81:=G80_ok.add ⟨f204,func204,by kernel_rfl,by kernel_rfl⟩ ve1
def wf2:Nat→Option LoopSpec
 |_=>none
theorem vtv:vab prog 159 vhi:=by
 refine vfc G81_ok follows func159 (c:=f159.body.getD .skip) (by kernel_rfl) vt3 ?_
 intro args s k r hk
 unfold vhi at hk
 rcases vam hk with⟨p,q,rfl,rfl⟩|hk
 ·exact .inl ⟨wf2,(n76n_p p.1 q.1.1 q.1.2.1 q.1.2.2.1 q.1.2.2.2.1 q.1.2.2.2.2.1 q.1.2.2.2.2.2.1 q.1.2.2.2.2.2.2.1 q.1.2.2.2.2.2.2.2.1).p.map _,by unfold vhi;rw [wp0];kernel_rfl,vaa (ids:=[]) (by kernel_rfl) (by kernel_rfl) trivial⟩
 exact .inr hk
def G82:Glob:=G81.add 159 vhi
theorem G82_ok:GlobOk prog G82:=G81_ok.add ⟨f159,func159,by kernel_rfl,by kernel_rfl⟩ vtv
def wie:Nat→Option LoopSpec
 |_=>none
theorem wzx:vab prog 202 wvd:=
 vaz G82_ok follows (f202.body.getD .skip) func202 (by kernel_rfl) fun p q=>⟨wie,(n16n_p ..).p.map _,by rw [wpr];kernel_rfl,vaa (ids:=[]) (by kernel_rfl) (by kernel_rfl) trivial⟩
def G83:Glob:=G82.add 202 wvd
theorem G83_ok:GlobOk prog G83:=G82_ok.add ⟨f202,func202,by kernel_rfl,by kernel_rfl⟩ wzx
def vq8:q10T→List AV:=fun x=>[.lst tTxn x.1,.fn 202 [.bp 0 0],.i x.2.1,.i x.2.2.1,.i x.2.2.2.1]
def vqe:q10T→St:=fun x=>let xh:=x.2.2.2.2;[.box [.i xh.1,.i xh.2.1,.i xh.2.2.1,.i xh.2.2.2.1,.lst tRange xh.2.2.2.2.1,.lst tWrite xh.2.2.2.2.2.1,.bool xh.2.2.2.2.2.2.1,.str xh.2.2.2.2.2.2.2]]
def vxs:Nat→Option LoopSpec
 |0=>some (lpS [0,1,4,7,8] [] [.lst tTxn,.fn 202 [.bp 0 0],.i,.i,.i] [.box [.i,.i,.i,.i,.lst tRange,.lst tWrite,.bool,.str]] vjf (fun p q=>(p.1,p.2.2.1,p.2.2.2.1,p.2.2.2.2.1,q.1.1,q.1.2.1,q.1.2.2.1,q.1.2.2.2.1,q.1.2.2.2.2.1,q.1.2.2.2.2.2.1,q.1.2.2.2.2.2.2.1,q.1.2.2.2.2.2.2.2.1)) (fun k=>(Sum.elim (onE (exZ .ret vq8 vqe) k) (onE (exZ (.exit 0) vq8 vqe) k))))
 |_=>none
theorem wmp:LpAt G83 ⟨1,19,vxs⟩ f99 0:=
 va2 rfl (fun x=>(n109n_bp0 x).p) vq8 vqe (Sum.elim ((exZ .ret vq8 vqe)) ((exZ (.exit 0) vq8 vqe))) (fun _ _=>⟨rfl,rfl⟩) (fun z=>by rcases z with z|z<;>(intro h;cases h)) (fun k z=>by rcases z with z|z<;>rfl) (fun x=>by kernel_rfl)
theorem vge:vab prog 99 vct:=by
 refine vfc G83_ok follows func99 (c:=f99.body.getD .skip) (by kernel_rfl) vgn ?_
 intro args s k r hk
 unfold vct at hk
 rcases vam hk with⟨p,q,rfl,rfl⟩|hk
 ·exact .inl ⟨vxs,(n109n_p p.1 q.1.1 q.1.2.1 q.1.2.2.1 q.1.2.2.2.1 q.1.2.2.2.2.1 q.1.2.2.2.2.2.1 q.1.2.2.2.2.2.2.1 q.1.2.2.2.2.2.2.2.1).p.map _,by unfold vct;rw [wa0];kernel_rfl,vaa (ids:=[0]) (by kernel_rfl) (by kernel_rfl) ⟨wmp,trivial⟩⟩
 exact .inr hk
def G84:Glob:=G83.add 99 vct
theorem G84_ok:GlobOk prog G84:=G83_ok.add ⟨f99,func99,by kernel_rfl,by kernel_rfl⟩ vge
def wgs:Nat→Option LoopSpec
 |_=>none
theorem ve6:vab prog 204 vbv:=by
 refine vfc G84_ok follows func204 (c:=f204.body.getD .skip) (by kernel_rfl) ve1 ?_
 intro args s k r hk
 unfold vbv at hk
 rcases vam hk with⟨p,q,rfl,rfl⟩|hk
 ·exact .inl ⟨wgs,(n94n_p p.1 q.1.1 q.1.2.1 q.1.2.2.1 q.1.2.2.2.1 q.1.2.2.2.2.1 q.1.2.2.2.2.2.1 q.1.2.2.2.2.2.2.1 q.1.2.2.2.2.2.2.2.1).p.map _,by unfold vbv;rw [woi];kernel_rfl,vaa (ids:=[]) (by kernel_rfl) (by kernel_rfl) trivial⟩
 exact .inr hk
def G85:Glob:=G84.add 204 vbv
theorem G85_ok:GlobOk prog G85:=G84_ok.add ⟨f204,func204,by kernel_rfl,by kernel_rfl⟩ ve6
def whf:Nat→Option LoopSpec
 |_=>none
theorem vtk:vab prog 159 vhh:=by
 refine vfc G85_ok follows func159 (c:=f159.body.getD .skip) (by kernel_rfl) vtv ?_
 intro args s k r hk
 unfold vhh at hk
 rcases vam hk with⟨p,q,rfl,rfl⟩|hk
 ·exact .inl ⟨whf,(n78n_p p.1 q.1.1 q.1.2.1 q.1.2.2.1 q.1.2.2.2.1 q.1.2.2.2.2.1 q.1.2.2.2.2.2.1 q.1.2.2.2.2.2.2.1 q.1.2.2.2.2.2.2.2.1).p.map _,by unfold vhh;rw [wob];kernel_rfl,vaa (ids:=[]) (by kernel_rfl) (by kernel_rfl) trivial⟩
 exact .inr hk
def G86:Glob:=G85.add 159 vhh
theorem G86_ok:GlobOk prog G86:=G85_ok.add ⟨f159,func159,by kernel_rfl,by kernel_rfl⟩ vtk
def vkg:q33T→List AV:=fun x=>[.bp 0 0,.bp 1 0,.bp 2 0,.bool x.1]
def vkn:q33T→St:=fun x=>let xh:=x.2.2.2.2;let xi:=xh.2.2.2.2;let xj:=xi.2.2.2.2;[.box [.i x.2.1,.i x.2.2.1,.i x.2.2.2.1,.i xh.1,.lst tRange xh.2.1,.lst tWrite xh.2.2.1,.bool xh.2.2.2.1,.str xi.1],.box [.lst tTxn xi.2.1],.box [.i xi.2.2.1,.i xi.2.2.2.1,.i xj.1,.i xj.2.1,.lst tRange xj.2.2.1,.lst tWrite xj.2.2.2.1,.bool xj.2.2.2.2.1,.str xj.2.2.2.2.2]]
def v0c:Nat→Option LoopSpec
 |5000003=>some (ctS [1,2,3,4] [] [.bp 0 0,.bp 1 0,.bp 2 0,.bool] [.box [.i,.i,.i,.i,.lst tRange,.lst tWrite,.bool,.str],.box [.lst tTxn],.box [.i,.i,.i,.i,.lst tRange,.lst tWrite,.bool,.str]] vgb (fun p q=>(p.2.2.2.1,q.1.1,q.1.2.1,q.1.2.2.1,q.1.2.2.2.1,q.1.2.2.2.2.1,q.1.2.2.2.2.2.1,q.1.2.2.2.2.2.2.1,q.1.2.2.2.2.2.2.2.1,q.2.1.1,q.2.2.1.1,q.2.2.1.2.1,q.2.2.1.2.2.1,q.2.2.1.2.2.2.1,q.2.2.1.2.2.2.2.1,q.2.2.1.2.2.2.2.2.1,q.2.2.1.2.2.2.2.2.2.1,q.2.2.1.2.2.2.2.2.2.2.1)) (fun k=>(onE (exZ .ret vkg vkn) k)))
 |_=>none
theorem vy2:CtAt G86 ⟨2,22,v0c⟩ f201 5000003:=
 vgt rfl (fun x=>(n15n_jp5000003 x).p) vkg vkn (exZ .ret vkg vkn) (fun _ _=>⟨rfl,rfl⟩) (fun _ _=>rfl) (fun x=>by kernel_rfl)
theorem w1n:vab prog 201 wux:=
 vaz G86_ok follows (f201.body.getD .skip) func201 (by kernel_rfl) fun p q=>⟨v0c,(n15n_p ..).p.map _,by rw [wnj];kernel_rfl,vaa (ids:=[5000003]) (by kernel_rfl) (by kernel_rfl) ⟨vy2,trivial⟩⟩
def G87:Glob:=G86.add 201 wux
theorem G87_ok:GlobOk prog G87:=G86_ok.add ⟨f201,func201,by kernel_rfl,by kernel_rfl⟩ w1n
def vr3:q8T→List AV:=fun x=>[.lst tTxn x.1,.fn 201 [.bp 0 0,.bp 1 0],.i x.2.1,.i x.2.2.1,.i x.2.2.2.1]
def vrh:q8T→St:=fun x=>let xh:=x.2.2.2.2;let xi:=xh.2.2.2.2;[.box [.i xh.1,.i xh.2.1,.i xh.2.2.1,.i xh.2.2.2.1,.lst tRange xi.1,.lst tWrite xi.2.1,.bool xi.2.2.1,.str xi.2.2.2.1],.box [.lst tTxn xi.2.2.2.2]]
def vx0:Nat→Option LoopSpec
 |0=>some (lpS [0,1,4,7,8] [] [.lst tTxn,.fn 201 [.bp 0 0,.bp 1 0],.i,.i,.i] [.box [.i,.i,.i,.i,.lst tRange,.lst tWrite,.bool,.str],.box [.lst tTxn]] vjz (fun p q=>(p.1,p.2.2.1,p.2.2.2.1,p.2.2.2.2.1,q.1.1,q.1.2.1,q.1.2.2.1,q.1.2.2.2.1,q.1.2.2.2.2.1,q.1.2.2.2.2.2.1,q.1.2.2.2.2.2.2.1,q.1.2.2.2.2.2.2.2.1,q.2.1.1)) (fun k=>(Sum.elim (onE (exZ .ret vr3 vrh) k) (onE (exZ (.exit 0) vr3 vrh) k))))
 |_=>none
theorem wjk:LpAt G87 ⟨2,19,vx0⟩ f99 0:=
 va2 rfl (fun x=>(n108n_bp0 x).p) vr3 vrh (Sum.elim ((exZ .ret vr3 vrh)) ((exZ (.exit 0) vr3 vrh))) (fun _ _=>⟨rfl,rfl⟩) (fun z=>by rcases z with z|z<;>(intro h;cases h)) (fun k z=>by rcases z with z|z<;>rfl) (fun x=>by kernel_rfl)
theorem vgi:vab prog 99 vcu:=by
 refine vfc G87_ok follows func99 (c:=f99.body.getD .skip) (by kernel_rfl) vge ?_
 intro args s k r hk
 unfold vcu at hk
 rcases vam hk with⟨p,q,rfl,rfl⟩|hk
 ·exact .inl ⟨vx0,(n108n_p p.1 q.1.1 q.1.2.1 q.1.2.2.1 q.1.2.2.2.1 q.1.2.2.2.2.1 q.1.2.2.2.2.2.1 q.1.2.2.2.2.2.2.1 q.1.2.2.2.2.2.2.2.1 q.2.1.1).p.map _,by unfold vcu;rw [wbi];kernel_rfl,vaa (ids:=[0]) (by kernel_rfl) (by kernel_rfl) ⟨wjk,trivial⟩⟩
 exact .inr hk
def G88:Glob:=G87.add 99 vcu
theorem G88_ok:GlobOk prog G88:=G87_ok.add ⟨f99,func99,by kernel_rfl,by kernel_rfl⟩ vgi
def whw:Nat→Option LoopSpec
 |_=>none
theorem ve3:vab prog 204 vb0:=by
 refine vfc G88_ok follows func204 (c:=f204.body.getD .skip) (by kernel_rfl) ve6 ?_
 intro args s k r hk
 unfold vb0 at hk
 rcases vam hk with⟨p,q,rfl,rfl⟩|hk
 ·exact .inl ⟨whw,(n93n_p p.1 q.1.1 q.1.2.1 q.1.2.2.1 q.1.2.2.2.1 q.1.2.2.2.2.1 q.1.2.2.2.2.2.1 q.1.2.2.2.2.2.2.1 q.1.2.2.2.2.2.2.2.1 q.2.1.1).p.map _,by unfold vb0;rw [wkv];kernel_rfl,vaa (ids:=[]) (by kernel_rfl) (by kernel_rfl) trivial⟩
 exact .inr hk
def G89:Glob:=G88.add 204 vb0
theorem G89_ok:GlobOk prog G89:=G88_ok.add ⟨f204,func204,by kernel_rfl,by kernel_rfl⟩ ve3
def wig:Nat→Option LoopSpec
 |_=>none
theorem vtd:vab prog 159 vhg:=by
 refine vfc G89_ok follows func159 (c:=f159.body.getD .skip) (by kernel_rfl) vtk ?_
 intro args s k r hk
 unfold vhg at hk
 rcases vam hk with⟨p,q,rfl,rfl⟩|hk
 ·exact .inl ⟨wig,(n77n_p p.1 q.1.1 q.1.2.1 q.1.2.2.1 q.1.2.2.2.1 q.1.2.2.2.2.1 q.1.2.2.2.2.2.1 q.1.2.2.2.2.2.2.1 q.1.2.2.2.2.2.2.2.1 q.2.1.1).p.map _,by unfold vhg;rw [wnd];kernel_rfl,vaa (ids:=[]) (by kernel_rfl) (by kernel_rfl) trivial⟩
 exact .inr hk
def G90:Glob:=G89.add 159 vhg
theorem G90_ok:GlobOk prog G90:=G89_ok.add ⟨f159,func159,by kernel_rfl,by kernel_rfl⟩ vtd
def vkj:q34T→List AV:=fun x=>[.bp 0 0,.bp 1 0,.bool x.1]
def vke:q34T→St:=fun x=>let xh:=x.2.2.2.2;[.box [.i x.2.1,.i x.2.2.1,.i x.2.2.2.1,.i xh.1,.lst tRange xh.2.1,.lst tWrite xh.2.2.1,.bool xh.2.2.2.1,.str xh.2.2.2.2.1],.box [.lst tTxn xh.2.2.2.2.2]]
def v2j:Nat→Option LoopSpec
 |5000003=>some (ctS [2,3,4] [] [.bp 0 0,.bp 1 0,.bool] [.box [.i,.i,.i,.i,.lst tRange,.lst tWrite,.bool,.str],.box [.lst tTxn]] veu (fun p q=>(p.2.2.1,q.1.1,q.1.2.1,q.1.2.2.1,q.1.2.2.2.1,q.1.2.2.2.2.1,q.1.2.2.2.2.2.1,q.1.2.2.2.2.2.2.1,q.1.2.2.2.2.2.2.2.1,q.2.1.1)) (fun k=>(onE (exZ .ret vkj vke) k)))
 |_=>none
theorem vzj:CtAt G90 ⟨0,19,v2j⟩ f155 5000003:=
 vgt rfl (fun x=>(n13n_jp5000003 x).p) vkj vke (exZ .ret vkj vke) (fun _ _=>⟨rfl,rfl⟩) (fun _ _=>rfl) (fun x=>by kernel_rfl)
theorem w0v:vab prog 155 wu9:=
 vaz G90_ok follows (f155.body.getD .skip) func155 (by kernel_rfl) fun p q=>⟨v2j,(n13n_p ..).p.map _,by rw [wjn];kernel_rfl,vaa (ids:=[5000003]) (by kernel_rfl) (by kernel_rfl) ⟨vzj,trivial⟩⟩
def G91:Glob:=G90.add 155 wu9
theorem G91_ok:GlobOk prog G91:=G90_ok.add ⟨f155,func155,by kernel_rfl,by kernel_rfl⟩ w0v
def whi:Nat→Option LoopSpec
 |_=>none
theorem w1s:vab prog 156 wue:=
 vaz G91_ok follows (f156.body.getD .skip) func156 (by kernel_rfl) fun p q=>⟨whi,(n65n_p _).p.map _,by rw [wna];kernel_rfl,vaa (ids:=[]) (by kernel_rfl) (by kernel_rfl) trivial⟩
def G92:Glob:=G91.add 156 wue
theorem G92_ok:GlobOk prog G92:=G91_ok.add ⟨f156,func156,by kernel_rfl,by kernel_rfl⟩ w1s
def wge:Nat→Option LoopSpec
 |2000004=>some ⟨[0,2,4,6,8,10,13,15,16],[],fun _ _ _=>none⟩
 |2000006=>some ⟨[0,2,4,6,8,10,13,15,16],[],fun _ _ _=>none⟩
 |_=>none
theorem w0r:vab prog 87 wt2:=
 vaz G92_ok follows (f87.body.getD .skip) func87 (by kernel_rfl) fun p q=>⟨wge,(n23n_p ..).p.map _,by rw [wm4];kernel_rfl,vaa (ids:=[]) (by kernel_rfl) (by kernel_rfl) trivial⟩
def G93:Glob:=G92.add 87 wt2
theorem G93_ok:GlobOk prog G93:=G92_ok.add ⟨f87,func87,by kernel_rfl,by kernel_rfl⟩ w0r
def whk:Nat→Option LoopSpec
 |_=>none
theorem wzi:vab prog 157 wv0:=
 vaz G93_ok follows (f157.body.getD .skip) func157 (by kernel_rfl) fun p q=>⟨whk,(n44n_p ..).p.map _,by rw [wix];kernel_rfl,vaa (ids:=[]) (by kernel_rfl) (by kernel_rfl) trivial⟩
def G94:Glob:=G93.add 157 wv0
theorem G94_ok:GlobOk prog G94:=G93_ok.add ⟨f157,func157,by kernel_rfl,by kernel_rfl⟩ wzi
def vrj:q10T→List AV:=fun x=>[.lst tTxn x.1,.fn 157 [.bp 0 0],.i x.2.1,.i x.2.2.1,.i x.2.2.2.1]
def vqh:q10T→St:=fun x=>let xh:=x.2.2.2.2;[.box [.i xh.1,.i xh.2.1,.i xh.2.2.1,.i xh.2.2.2.1,.lst tRange xh.2.2.2.2.1,.lst tWrite xh.2.2.2.2.2.1,.bool xh.2.2.2.2.2.2.1,.str xh.2.2.2.2.2.2.2]]
def vuv:Nat→Option LoopSpec
 |0=>some (lpS [0,1,4,7,8] [] [.lst tTxn,.fn 157 [.bp 0 0],.i,.i,.i] [.box [.i,.i,.i,.i,.lst tRange,.lst tWrite,.bool,.str]] vjw (fun p q=>(p.1,p.2.2.1,p.2.2.2.1,p.2.2.2.2.1,q.1.1,q.1.2.1,q.1.2.2.1,q.1.2.2.2.1,q.1.2.2.2.2.1,q.1.2.2.2.2.2.1,q.1.2.2.2.2.2.2.1,q.1.2.2.2.2.2.2.2.1)) (fun k=>(Sum.elim (onE (exZ .ret vrj vqh) k) (onE (exZ (.exit 0) vrj vqh) k))))
 |_=>none
theorem wn9:LpAt G94 ⟨1,19,vuv⟩ f99 0:=
 va2 rfl (fun x=>(n114n_bp0 x).p) vrj vqh (Sum.elim ((exZ .ret vrj vqh)) ((exZ (.exit 0) vrj vqh))) (fun _ _=>⟨rfl,rfl⟩) (fun z=>by rcases z with z|z<;>(intro h;cases h)) (fun k z=>by rcases z with z|z<;>rfl) (fun x=>by kernel_rfl)
theorem vf1:vab prog 99 vck:=by
 refine vfc G94_ok follows func99 (c:=f99.body.getD .skip) (by kernel_rfl) vgi ?_
 intro args s k r hk
 unfold vck at hk
 rcases vam hk with⟨p,q,rfl,rfl⟩|hk
 ·exact .inl ⟨vuv,(n114n_p p.1 q.1.1 q.1.2.1 q.1.2.2.1 q.1.2.2.2.1 q.1.2.2.2.2.1 q.1.2.2.2.2.2.1 q.1.2.2.2.2.2.2.1 q.1.2.2.2.2.2.2.2.1).p.map _,by unfold vck;rw [wag];kernel_rfl,vaa (ids:=[0]) (by kernel_rfl) (by kernel_rfl) ⟨wn9,trivial⟩⟩
 exact .inr hk
def G95:Glob:=G94.add 99 vck
theorem G95_ok:GlobOk prog G95:=G94_ok.add ⟨f99,func99,by kernel_rfl,by kernel_rfl⟩ vf1
def wfx:Nat→Option LoopSpec
 |_=>none
theorem ve0:vab prog 204 vbu:=by
 refine vfc G95_ok follows func204 (c:=f204.body.getD .skip) (by kernel_rfl) ve3 ?_
 intro args s k r hk
 unfold vbu at hk
 rcases vam hk with⟨p,q,rfl,rfl⟩|hk
 ·exact .inl ⟨wfx,(n97n_p p.1 q.1.1 q.1.2.1 q.1.2.2.1 q.1.2.2.2.1 q.1.2.2.2.2.1 q.1.2.2.2.2.2.1 q.1.2.2.2.2.2.2.1 q.1.2.2.2.2.2.2.2.1).p.map _,by unfold vbu;rw [wpg];kernel_rfl,vaa (ids:=[]) (by kernel_rfl) (by kernel_rfl) trivial⟩
 exact .inr hk
def G96:Glob:=G95.add 204 vbu
theorem G96_ok:GlobOk prog G96:=G95_ok.add ⟨f204,func204,by kernel_rfl,by kernel_rfl⟩ ve0
def wip:Nat→Option LoopSpec
 |_=>none
theorem vt9:vab prog 159 vhe:=by
 refine vfc G96_ok follows func159 (c:=f159.body.getD .skip) (by kernel_rfl) vtd ?_
 intro args s k r hk
 unfold vhe at hk
 rcases vam hk with⟨p,q,rfl,rfl⟩|hk
 ·exact .inl ⟨wip,(n81n_p p.1 q.1.1 q.1.2.1 q.1.2.2.1 q.1.2.2.2.1 q.1.2.2.2.2.1 q.1.2.2.2.2.2.1 q.1.2.2.2.2.2.2.1 q.1.2.2.2.2.2.2.2.1).p.map _,by unfold vhe;rw [wjr];kernel_rfl,vaa (ids:=[]) (by kernel_rfl) (by kernel_rfl) trivial⟩
 exact .inr hk
def G97:Glob:=G96.add 159 vhe
theorem G97_ok:GlobOk prog G97:=G96_ok.add ⟨f159,func159,by kernel_rfl,by kernel_rfl⟩ vt9
def wgj:Nat→Option LoopSpec
 |_=>none
theorem w08:vab prog 161 wve:=
 vaz G97_ok follows (f161.body.getD .skip) func161 (by kernel_rfl) fun p q=>⟨wgj,(n46n_p ..).p.map _,by rw [wkf];kernel_rfl,vaa (ids:=[]) (by kernel_rfl) (by kernel_rfl) trivial⟩
def G98:Glob:=G97.add 161 wve
theorem G98_ok:GlobOk prog G98:=G97_ok.add ⟨f161,func161,by kernel_rfl,by kernel_rfl⟩ w08
def vr6:q9T→List AV:=fun x=>[.lst tTxn x.1,.fn 161 [.bp 0 0,.bp 1 0],.i x.2.1,.i x.2.2.1,.i x.2.2.2.1]
def vr0:q9T→St:=fun x=>let xh:=x.2.2.2.2;let xi:=xh.2.2.2.2;let xj:=xi.2.2.2.2;[.box [.i xh.1,.i xh.2.1,.i xh.2.2.1,.i xh.2.2.2.1,.lst tRange xi.1,.lst tWrite xi.2.1,.bool xi.2.2.1,.str xi.2.2.2.1],.box [.i xj.1,.i xj.2.1,.i xj.2.2.1,.i xj.2.2.2.1,.lst tRange xj.2.2.2.2.1,.lst tWrite xj.2.2.2.2.2.1,.bool xj.2.2.2.2.2.2.1,.str xj.2.2.2.2.2.2.2]]
def vu7:Nat→Option LoopSpec
 |0=>some (lpS [0,1,4,7,8] [] [.lst tTxn,.fn 161 [.bp 0 0,.bp 1 0],.i,.i,.i] [.box [.i,.i,.i,.i,.lst tRange,.lst tWrite,.bool,.str],.box [.i,.i,.i,.i,.lst tRange,.lst tWrite,.bool,.str]] vje (fun p q=>(p.1,p.2.2.1,p.2.2.2.1,p.2.2.2.2.1,q.1.1,q.1.2.1,q.1.2.2.1,q.1.2.2.2.1,q.1.2.2.2.2.1,q.1.2.2.2.2.2.1,q.1.2.2.2.2.2.2.1,q.1.2.2.2.2.2.2.2.1,q.2.1.1,q.2.1.2.1,q.2.1.2.2.1,q.2.1.2.2.2.1,q.2.1.2.2.2.2.1,q.2.1.2.2.2.2.2.1,q.2.1.2.2.2.2.2.2.1,q.2.1.2.2.2.2.2.2.2.1)) (fun k=>(Sum.elim (onE (exZ .ret vr6 vr0) k) (onE (exZ (.exit 0) vr6 vr0) k))))
 |_=>none
theorem wk7:LpAt G98 ⟨2,19,vu7⟩ f99 0:=
 va2 rfl (fun x=>(n116n_bp0 x).p) vr6 vr0 (Sum.elim ((exZ .ret vr6 vr0)) ((exZ (.exit 0) vr6 vr0))) (fun _ _=>⟨rfl,rfl⟩) (fun z=>by rcases z with z|z<;>(intro h;cases h)) (fun k z=>by rcases z with z|z<;>rfl) (fun x=>by kernel_rfl)
theorem vf3:vab prog 99 vce:=by
 refine vfc G98_ok follows func99 (c:=f99.body.getD .skip) (by kernel_rfl) vf1 ?_
 intro args s k r hk
 unfold vce at hk
 rcases vam hk with⟨p,q,rfl,rfl⟩|hk
 ·exact .inl ⟨vu7,(n116n_p p.1 q.1.1 q.1.2.1 q.1.2.2.1 q.1.2.2.2.1 q.1.2.2.2.2.1 q.1.2.2.2.2.2.1 q.1.2.2.2.2.2.2.1 q.1.2.2.2.2.2.2.2.1 q.2.1.1 q.2.1.2.1 q.2.1.2.2.1 q.2.1.2.2.2.1 q.2.1.2.2.2.2.1 q.2.1.2.2.2.2.2.1 q.2.1.2.2.2.2.2.2.1 q.2.1.2.2.2.2.2.2.2.1).p.map _,by unfold vce;rw [v8x];kernel_rfl,vaa (ids:=[0]) (by kernel_rfl) (by kernel_rfl) ⟨wk7,trivial⟩⟩
 exact .inr hk
def G99:Glob:=G98.add 99 vce
theorem G99_ok:GlobOk prog G99:=G98_ok.add ⟨f99,func99,by kernel_rfl,by kernel_rfl⟩ vf3
def whp:Nat→Option LoopSpec
 |_=>none
theorem ve2:vab prog 204 vbx:=by
 refine vfc G99_ok follows func204 (c:=f204.body.getD .skip) (by kernel_rfl) ve0 ?_
 intro args s k r hk
 unfold vbx at hk
 rcases vam hk with⟨p,q,rfl,rfl⟩|hk
 ·exact .inl ⟨whp,(n99n_p p.1 q.1.1 q.1.2.1 q.1.2.2.1 q.1.2.2.2.1 q.1.2.2.2.2.1 q.1.2.2.2.2.2.1 q.1.2.2.2.2.2.2.1 q.1.2.2.2.2.2.2.2.1 q.2.1.1 q.2.1.2.1 q.2.1.2.2.1 q.2.1.2.2.2.1 q.2.1.2.2.2.2.1 q.2.1.2.2.2.2.2.1 q.2.1.2.2.2.2.2.2.1 q.2.1.2.2.2.2.2.2.2.1).p.map _,by unfold vbx;rw [wop];kernel_rfl,vaa (ids:=[]) (by kernel_rfl) (by kernel_rfl) trivial⟩
 exact .inr hk
def G100:Glob:=G99.add 204 vbx
theorem G100_ok:GlobOk prog G100:=G99_ok.add ⟨f204,func204,by kernel_rfl,by kernel_rfl⟩ ve2
def wf6:Nat→Option LoopSpec
 |_=>none
theorem vty:vab prog 159 vhj:=by
 refine vfc G100_ok follows func159 (c:=f159.body.getD .skip) (by kernel_rfl) vt9 ?_
 intro args s k r hk
 unfold vhj at hk
 rcases vam hk with⟨p,q,rfl,rfl⟩|hk
 ·exact .inl ⟨wf6,(n83n_p p.1 q.1.1 q.1.2.1 q.1.2.2.1 q.1.2.2.2.1 q.1.2.2.2.2.1 q.1.2.2.2.2.2.1 q.1.2.2.2.2.2.2.1 q.1.2.2.2.2.2.2.2.1 q.2.1.1 q.2.1.2.1 q.2.1.2.2.1 q.2.1.2.2.2.1 q.2.1.2.2.2.2.1 q.2.1.2.2.2.2.2.1 q.2.1.2.2.2.2.2.2.1 q.2.1.2.2.2.2.2.2.2.1).p.map _,by unfold vhj;rw [wkt];kernel_rfl,vaa (ids:=[]) (by kernel_rfl) (by kernel_rfl) trivial⟩
 exact .inr hk
def G101:Glob:=G100.add 159 vhj
theorem G101_ok:GlobOk prog G101:=G100_ok.add ⟨f159,func159,by kernel_rfl,by kernel_rfl⟩ vty
def wil:Nat→Option LoopSpec
 |_=>none
theorem w0f:vab prog 160 wt4:=
 vaz G101_ok follows (f160.body.getD .skip) func160 (by kernel_rfl) fun p q=>⟨wil,(n45n_p ..).p.map _,by rw [wpp];kernel_rfl,vaa (ids:=[]) (by kernel_rfl) (by kernel_rfl) trivial⟩
def G102:Glob:=G101.add 160 wt4
theorem G102_ok:GlobOk prog G102:=G101_ok.add ⟨f160,func160,by kernel_rfl,by kernel_rfl⟩ w0f
def vrp:q5T→List AV:=fun x=>[.lst tTxn x.1,.fn 160 [.bp 0 0,.bp 1 0,.bp 2 0],.i x.2.1,.i x.2.2.1,.i x.2.2.2.1]
def vrv:q5T→St:=fun x=>let xh:=x.2.2.2.2;let xi:=xh.2.2.2.2;[.box [.fn 157 [.bp 2 0]],.box [.lst tTxn xh.1],.box [.i xh.2.1,.i xh.2.2.1,.i xh.2.2.2.1,.i xi.1,.lst tRange xi.2.1,.lst tWrite xi.2.2.1,.bool xi.2.2.2.1,.str xi.2.2.2.2]]
def vvo:Nat→Option LoopSpec
 |0=>some (lpS [0,1,4,7,8] [] [.lst tTxn,.fn 160 [.bp 0 0,.bp 1 0,.bp 2 0],.i,.i,.i] [.box [.fn 157 [.bp 2 0]],.box [.lst tTxn],.box [.i,.i,.i,.i,.lst tRange,.lst tWrite,.bool,.str]] vi3 (fun p q=>(p.1,p.2.2.1,p.2.2.2.1,p.2.2.2.2.1,q.2.1.1,q.2.2.1.1,q.2.2.1.2.1,q.2.2.1.2.2.1,q.2.2.1.2.2.2.1,q.2.2.1.2.2.2.2.1,q.2.2.1.2.2.2.2.2.1,q.2.2.1.2.2.2.2.2.2.1,q.2.2.1.2.2.2.2.2.2.2.1)) (fun k=>(Sum.elim (onE (exZ .ret vrp vrv) k) (onE (exZ (.exit 0) vrp vrv) k))))
 |_=>none
theorem wmo:LpAt G102 ⟨3,19,vvo⟩ f99 0:=
 va2 rfl (fun x=>(n115n_bp0 x).p) vrp vrv (Sum.elim ((exZ .ret vrp vrv)) ((exZ (.exit 0) vrp vrv))) (fun _ _=>⟨rfl,rfl⟩) (fun z=>by rcases z with z|z<;>(intro h;cases h)) (fun k z=>by rcases z with z|z<;>rfl) (fun x=>by kernel_rfl)
theorem vf4:vab prog 99 vcd:=by
 refine vfc G102_ok follows func99 (c:=f99.body.getD .skip) (by kernel_rfl) vf3 ?_
 intro args s k r hk
 unfold vcd at hk
 rcases vam hk with⟨p,q,rfl,rfl⟩|hk
 ·exact .inl ⟨vvo,(n115n_p p.1 q.2.1.1 q.2.2.1.1 q.2.2.1.2.1 q.2.2.1.2.2.1 q.2.2.1.2.2.2.1 q.2.2.1.2.2.2.2.1 q.2.2.1.2.2.2.2.2.1 q.2.2.1.2.2.2.2.2.2.1 q.2.2.1.2.2.2.2.2.2.2.1).p.map _,by unfold vcd;rw [wat];kernel_rfl,vaa (ids:=[0]) (by kernel_rfl) (by kernel_rfl) ⟨wmo,trivial⟩⟩
 exact .inr hk
def G103:Glob:=G102.add 99 vcd
theorem G103_ok:GlobOk prog G103:=G102_ok.add ⟨f99,func99,by kernel_rfl,by kernel_rfl⟩ vf4
def wih:Nat→Option LoopSpec
 |_=>none
theorem vik:vab prog 204 vcv:=by
 refine vfc G103_ok follows func204 (c:=f204.body.getD .skip) (by kernel_rfl) ve2 ?_
 intro args s k r hk
 unfold vcv at hk
 rcases vam hk with⟨p,q,rfl,rfl⟩|hk
 ·exact .inl ⟨wih,(n98n_p p.1 q.2.1.1 q.2.2.1.1 q.2.2.1.2.1 q.2.2.1.2.2.1 q.2.2.1.2.2.2.1 q.2.2.1.2.2.2.2.1 q.2.2.1.2.2.2.2.2.1 q.2.2.1.2.2.2.2.2.2.1 q.2.2.1.2.2.2.2.2.2.2.1).p.map _,by unfold vcv;rw [wns];kernel_rfl,vaa (ids:=[]) (by kernel_rfl) (by kernel_rfl) trivial⟩
 exact .inr hk
def G104:Glob:=G103.add 204 vcv
theorem G104_ok:GlobOk prog G104:=G103_ok.add ⟨f204,func204,by kernel_rfl,by kernel_rfl⟩ vik
def whz:Nat→Option LoopSpec
 |_=>none
theorem v3v:vab prog 159 vh5:=by
 refine vfc G104_ok follows func159 (c:=f159.body.getD .skip) (by kernel_rfl) vty ?_
 intro args s k r hk
 unfold vh5 at hk
 rcases vam hk with⟨p,q,rfl,rfl⟩|hk
 ·exact .inl ⟨whz,(n82n_p p.1 q.2.1.1 q.2.2.1.1 q.2.2.1.2.1 q.2.2.1.2.2.1 q.2.2.1.2.2.2.1 q.2.2.1.2.2.2.2.1 q.2.2.1.2.2.2.2.2.1 q.2.2.1.2.2.2.2.2.2.1 q.2.2.1.2.2.2.2.2.2.2.1).p.map _,by unfold vh5;rw [wpe];kernel_rfl,vaa (ids:=[]) (by kernel_rfl) (by kernel_rfl) trivial⟩
 exact .inr hk
def G105:Glob:=G104.add 159 vh5
theorem G105_ok:GlobOk prog G105:=G104_ok.add ⟨f159,func159,by kernel_rfl,by kernel_rfl⟩ v3v
def wgg:Nat→Option LoopSpec
 |_=>none
theorem w1f:vab prog 88 wuw:=
 vaz G105_ok follows (f88.body.getD .skip) func88 (by kernel_rfl) fun p q=>⟨wgg,(n43n_p ..).p.map _,by rw [wpb];kernel_rfl,vaa (ids:=[]) (by kernel_rfl) (by kernel_rfl) trivial⟩
def G106:Glob:=G105.add 88 wuw
theorem G106_ok:GlobOk prog G106:=G105_ok.add ⟨f88,func88,by kernel_rfl,by kernel_rfl⟩ w1f
def wfu:Nat→Option LoopSpec
 |_=>none
theorem w09:vab prog 162 wtp:=
 vaz G106_ok follows (f162.body.getD .skip) func162 (by kernel_rfl) fun p q=>⟨wfu,(n87n_p ..).p.map _,by rw [wl2];kernel_rfl,vaa (ids:=[]) (by kernel_rfl) (by kernel_rfl) trivial⟩
def G107:Glob:=G106.add 162 wtp
theorem G107_ok:GlobOk prog G107:=G106_ok.add ⟨f162,func162,by kernel_rfl,by kernel_rfl⟩ w09
def vqk:q12T→List AV:=fun x=>[.lst tTxn x.1,.fn 162 [.bp 0 0],.i x.2.1,.i x.2.2.1,.i x.2.2.2.1]
def vrf:q12T→St:=fun x=>[.box [.i x.2.2.2.2]]
def vyx:Nat→Option LoopSpec
 |0=>some (lpS [0,1,4,7,8] [] [.lst tTxn,.fn 162 [.bp 0 0],.i,.i,.i] [.box [.i]] vjv (fun p q=>(p.1,p.2.2.1,p.2.2.2.1,p.2.2.2.2.1,q.1.1)) (fun k=>(Sum.elim (onE (exZ .ret vqk vrf) k) (onE (exZ (.exit 0) vqk vrf) k))))
 |_=>none
theorem wpm:LpAt G107 ⟨1,19,vyx⟩ f99 0:=
 va2 rfl (fun x=>(n120n_bp0 x).p) vqk vrf (Sum.elim ((exZ .ret vqk vrf)) ((exZ (.exit 0) vqk vrf))) (fun _ _=>⟨rfl,rfl⟩) (fun z=>by rcases z with z|z<;>(intro h;cases h)) (fun k z=>by rcases z with z|z<;>rfl) (fun x=>by kernel_rfl)
theorem vfx:vab prog 99 vcg:=by
 refine vfc G107_ok follows func99 (c:=f99.body.getD .skip) (by kernel_rfl) vf4 ?_
 intro args s k r hk
 unfold vcg at hk
 rcases vam hk with⟨p,q,rfl,rfl⟩|hk
 ·exact .inl ⟨vyx,(n120n_p p.1 q.1.1).p.map _,by unfold vcg;rw [v9a];kernel_rfl,vaa (ids:=[0]) (by kernel_rfl) (by kernel_rfl) ⟨wpm,trivial⟩⟩
 exact .inr hk
def G108:Glob:=G107.add 99 vcg
theorem G108_ok:GlobOk prog G108:=G107_ok.add ⟨f99,func99,by kernel_rfl,by kernel_rfl⟩ vfx
def wh1:Nat→Option LoopSpec
 |_=>none
theorem w0a:vab prog 110 wvn:=
 vaz G108_ok follows (f110.body.getD .skip) func110 (by kernel_rfl) fun p q=>⟨wh1,(n51n_p ..).p.map _,by rw [wkb];kernel_rfl,vaa (ids:=[]) (by kernel_rfl) (by kernel_rfl) trivial⟩
def G109:Glob:=G108.add 110 wvn
theorem G109_ok:GlobOk prog G109:=G108_ok.add ⟨f110,func110,by kernel_rfl,by kernel_rfl⟩ w0a
def vr2:q12T→List AV:=fun x=>[.lst tTxn x.1,.fn 110 [.bp 0 0],.i x.2.1,.i x.2.2.1,.i x.2.2.2.1]
def vr5:q12T→St:=fun x=>[.box [.i x.2.2.2.2]]
def vuy:Nat→Option LoopSpec
 |0=>some (lpS [0,1,4,7,8] [] [.lst tTxn,.fn 110 [.bp 0 0],.i,.i,.i] [.box [.i]] vi8 (fun p q=>(p.1,p.2.2.1,p.2.2.2.1,p.2.2.2.2.1,q.1.1)) (fun k=>(Sum.elim (onE (exZ .ret vr2 vr5) k) (onE (exZ (.exit 0) vr2 vr5) k))))
 |_=>none
theorem wpt:LpAt G109 ⟨1,19,vuy⟩ f99 0:=
 va2 rfl (fun x=>(n118n_bp0 x).p) vr2 vr5 (Sum.elim ((exZ .ret vr2 vr5)) ((exZ (.exit 0) vr2 vr5))) (fun _ _=>⟨rfl,rfl⟩) (fun z=>by rcases z with z|z<;>(intro h;cases h)) (fun k z=>by rcases z with z|z<;>rfl) (fun x=>by kernel_rfl)
theorem vfw:vab prog 99 vch:=by
 refine vfc G109_ok follows func99 (c:=f99.body.getD .skip) (by kernel_rfl) vfx ?_
 intro args s k r hk
 unfold vch at hk
 rcases vam hk with⟨p,q,rfl,rfl⟩|hk
 ·exact .inl ⟨vuy,(n118n_p p.1 q.1.1).p.map _,by unfold vch;rw [wa3];kernel_rfl,vaa (ids:=[0]) (by kernel_rfl) (by kernel_rfl) ⟨wpt,trivial⟩⟩
 exact .inr hk
def G110:Glob:=G109.add 99 vch
theorem G110_ok:GlobOk prog G110:=G109_ok.add ⟨f99,func99,by kernel_rfl,by kernel_rfl⟩ vfw
def wg6:Nat→Option LoopSpec
 |_=>none
theorem w03:vab prog 122 wvh:=
 vaz G110_ok follows (f122.body.getD .skip) func122 (by kernel_rfl) fun p q=>⟨wg6,(n49n_p ..).p.map _,by rw [wi1];kernel_rfl,vaa (ids:=[]) (by kernel_rfl) (by kernel_rfl) trivial⟩
def G111:Glob:=G110.add 122 wvh
theorem G111_ok:GlobOk prog G111:=G110_ok.add ⟨f122,func122,by kernel_rfl,by kernel_rfl⟩ w03
def vq0:q11T→List AV:=fun x=>[.lst tTxn x.1,.fn 122 [.bp 0 0],.i x.2.1,.i x.2.2.1,.i x.2.2.2.1]
def vqq:q11T→St:=fun x=>let xh:=x.2.2.2.2;[.box [.i xh.1,.i xh.2.1,.i xh.2.2.1,.i xh.2.2.2.1,.dead,.dead,.bool xh.2.2.2.2.1,.str xh.2.2.2.2.2]]
def vwt:Nat→Option LoopSpec
 |0=>some (lpS [0,1,4,7,8] [] [.lst tTxn,.fn 122 [.bp 0 0],.i,.i,.i] [.box [.i,.i,.i,.i,.dead,.dead,.bool,.str]] vkd (fun p q=>(p.1,p.2.2.1,p.2.2.2.1,p.2.2.2.2.1,q.1.1,q.1.2.1,q.1.2.2.1,q.1.2.2.2.1,q.1.2.2.2.2.2.2.1,q.1.2.2.2.2.2.2.2.1)) (fun k=>(Sum.elim (onE (exZ .ret vq0 vqq) k) (onE (exZ (.exit 0) vq0 vqq) k))))
 |_=>none
theorem wli:LpAt G111 ⟨1,19,vwt⟩ f99 0:=
 va2 rfl (fun x=>(n117n_bp0 x).p) vq0 vqq (Sum.elim ((exZ .ret vq0 vqq)) ((exZ (.exit 0) vq0 vqq))) (fun _ _=>⟨rfl,rfl⟩) (fun z=>by rcases z with z|z<;>(intro h;cases h)) (fun k z=>by rcases z with z|z<;>rfl) (fun x=>by kernel_rfl)
theorem vli:vab prog 99 vdb:=by
 refine vfc G111_ok follows func99 (c:=f99.body.getD .skip) (by kernel_rfl) vfw ?_
 intro args s k r hk
 unfold vdb at hk
 rcases vam hk with⟨p,q,rfl,rfl⟩|hk
 ·exact .inl ⟨vwt,(n117n_p p.1 q.1.1 q.1.2.1 q.1.2.2.1 q.1.2.2.2.1 q.1.2.2.2.2.2.2.1 q.1.2.2.2.2.2.2.2.1).p.map _,by unfold vdb;rw [v8d];kernel_rfl,vaa (ids:=[0]) (by kernel_rfl) (by kernel_rfl) ⟨wli,trivial⟩⟩
 exact .inr hk
def G112:Glob:=G111.add 99 vdb
theorem G112_ok:GlobOk prog G112:=G111_ok.add ⟨f99,func99,by kernel_rfl,by kernel_rfl⟩ vli
def vis:Nat→Option LoopSpec
 |0=>some ⟨[0,1,5,6],[],fun vals st k=>vae [.own 0,.fn 162 [.bp 1 0],.i,.i] [.mov tTxn 0,.box [.i]] vals st (fun p q=>vad vgm Fuel (.inl (p.2.2.1,p.2.2.2.1,q.1.1,q.1.2,q.2.1.1)) (Sum.elim (fun z=>k (.exit 0) [.own 0,.fn 162 [.bp 1 0],.i z.1,.i z.2.1] [.dep tTxn z.2.2.1 0 z.2.2.2.1,.box [.i z.2.2.2.2]]) (fun z=>k (.exit 0) [.own 0,.fn 162 [.bp 1 0],.i z.1,.i z.2.1] [.dep tTxn z.2.2.1 1 z.2.2.2.1,.box [.i z.2.2.2.2]])))
   (vae [.own 0,.fn 162 [.bp 1 0],.i,.i] [.mov tTxn 1,.box [.i]] vals st (fun p q=>vad vgm Fuel (.inr (p.2.2.1,p.2.2.2.1,q.1.1,q.1.2,q.2.1.1)) (Sum.elim (fun z=>k (.exit 0) [.own 0,.fn 162 [.bp 1 0],.i z.1,.i z.2.1] [.dep tTxn z.2.2.1 0 z.2.2.2.1,.box [.i z.2.2.2.2]]) (fun z=>k (.exit 0) [.own 0,.fn 162 [.bp 1 0],.i z.1,.i z.2.1] [.dep tTxn z.2.2.1 1 z.2.2.2.1,.box [.i z.2.2.2.2]])))
   (none))⟩
 |_=>none
def vug:((Int×Int×TL×(List Nat)×Int)⊕(Int×Int×TL×(List Nat)×Int))→List AV:=(Sum.elim (fun x=>[.own 0,.fn 162 [.bp 1 0],.i x.1,.i x.2.1]) (fun x=>[.own 0,.fn 162 [.bp 1 0],.i x.1,.i x.2.1]))
def vus:((Int×Int×TL×(List Nat)×Int)⊕(Int×Int×TL×(List Nat)×Int))→St:=(Sum.elim (fun x=>[.dep tTxn x.2.2.1 0 x.2.2.2.1,.box [.i x.2.2.2.2]]) (fun x=>[.dep tTxn x.2.2.1 1 x.2.2.2.1,.box [.i x.2.2.2.2]]))
def vrb:((Int×Int×TL×(List Nat)×Int)⊕(Int×Int×TL×(List Nat)×Int))→Out×List AV×St:=(Sum.elim (fun z=>((.exit 0),[.own 0,.fn 162 [.bp 1 0],.i z.1,.i z.2.1],[.dep tTxn z.2.2.1 0 z.2.2.2.1,.box [.i z.2.2.2.2]])) (fun z=>((.exit 0),[.own 0,.fn 162 [.bp 1 0],.i z.1,.i z.2.1],[.dep tTxn z.2.2.1 1 z.2.2.2.1,.box [.i z.2.2.2.2]])))
theorem v6q (x:((Int×Int×TL×(List Nat)×Int)⊕(Int×Int×TL×(List Nat)×Int))):exec G112 ⟨2,42,vis⟩ (vfk f101 0) (vo2 ⟨2,42,vis⟩ [0,1,5,6] []) (vh2 (vgy 42) [0,1,5,6] (vug x)) (vus x)=vgm x (Sum.elim (fun y=>some ⟨.norm,vug y,vus y⟩) fun z=>some ⟨(vrb z).1,(vrb z).2.1,(vrb z).2.2⟩):=by
 rcases x with x|x<;>kernel_rfl
theorem wmn:∀sp,(vis 0)=some sp→vvj G112 ⟨2,42,vis⟩ sp (vfk f101 0):=by
 intro sp hsp vals st k r h
 cases hsp
 dsimp only at h
 rcases vc1 h with⟨p,q,rfl,rfl,h⟩|h
 ·exact veq (fun x=>(n104n_bp0 x).p) vug vus vrb (fun z=>by rcases z with z|z<;>(intro h;cases h)) v6q Fuel (.inl (p.2.2.1,p.2.2.2.1,q.1.1,q.1.2,q.2.1.1)) _ k r (fun z=>by rcases z with z|z<;>rfl) h
 rcases vc1 h with⟨p,q,rfl,rfl,h⟩|h
 ·exact veq (fun x=>(n104n_bp0 x).p) vug vus vrb (fun z=>by rcases z with z|z<;>(intro h;cases h)) v6q Fuel (.inr (p.2.2.1,p.2.2.2.1,q.1.1,q.1.2,q.2.1.1)) _ k r (fun z=>by rcases z with z|z<;>rfl) h
 cases h
def vij:Nat→Option LoopSpec
 |0=>some ⟨[0,1,5,6],[],fun vals st k=>vae [.own 0,.fn 110 [.bp 1 0],.i,.i] [.mov tTxn 0,.box [.i]] vals st (fun p q=>vad vf7 Fuel (.inl (p.2.2.1,p.2.2.2.1,q.1.1,q.1.2,q.2.1.1)) (Sum.elim (fun z=>k (.exit 0) [.own 0,.fn 110 [.bp 1 0],.i z.1,.i z.2.1] [.dep tTxn z.2.2.1 0 z.2.2.2.1,.box [.i z.2.2.2.2]]) (fun z=>k (.exit 0) [.own 0,.fn 110 [.bp 1 0],.i z.1,.i z.2.1] [.dep tTxn z.2.2.1 1 z.2.2.2.1,.box [.i z.2.2.2.2]])))
   (vae [.own 0,.fn 110 [.bp 1 0],.i,.i] [.mov tTxn 1,.box [.i]] vals st (fun p q=>vad vf7 Fuel (.inr (p.2.2.1,p.2.2.2.1,q.1.1,q.1.2,q.2.1.1)) (Sum.elim (fun z=>k (.exit 0) [.own 0,.fn 110 [.bp 1 0],.i z.1,.i z.2.1] [.dep tTxn z.2.2.1 0 z.2.2.2.1,.box [.i z.2.2.2.2]]) (fun z=>k (.exit 0) [.own 0,.fn 110 [.bp 1 0],.i z.1,.i z.2.1] [.dep tTxn z.2.2.1 1 z.2.2.2.1,.box [.i z.2.2.2.2]])))
   (none))⟩
 |_=>none
def vuk:((Int×Int×TL×(List Nat)×Int)⊕(Int×Int×TL×(List Nat)×Int))→List AV:=(Sum.elim (fun x=>[.own 0,.fn 110 [.bp 1 0],.i x.1,.i x.2.1]) (fun x=>[.own 0,.fn 110 [.bp 1 0],.i x.1,.i x.2.1]))
def vuo:((Int×Int×TL×(List Nat)×Int)⊕(Int×Int×TL×(List Nat)×Int))→St:=(Sum.elim (fun x=>[.dep tTxn x.2.2.1 0 x.2.2.2.1,.box [.i x.2.2.2.2]]) (fun x=>[.dep tTxn x.2.2.1 1 x.2.2.2.1,.box [.i x.2.2.2.2]]))
def vqu:((Int×Int×TL×(List Nat)×Int)⊕(Int×Int×TL×(List Nat)×Int))→Out×List AV×St:=(Sum.elim (fun z=>((.exit 0),[.own 0,.fn 110 [.bp 1 0],.i z.1,.i z.2.1],[.dep tTxn z.2.2.1 0 z.2.2.2.1,.box [.i z.2.2.2.2]])) (fun z=>((.exit 0),[.own 0,.fn 110 [.bp 1 0],.i z.1,.i z.2.1],[.dep tTxn z.2.2.1 1 z.2.2.2.1,.box [.i z.2.2.2.2]])))
theorem v6s (x:((Int×Int×TL×(List Nat)×Int)⊕(Int×Int×TL×(List Nat)×Int))):exec G112 ⟨2,42,vij⟩ (vfk f101 0) (vo2 ⟨2,42,vij⟩ [0,1,5,6] []) (vh2 (vgy 42) [0,1,5,6] (vuk x)) (vuo x)=vf7 x (Sum.elim (fun y=>some ⟨.norm,vuk y,vuo y⟩) fun z=>some ⟨(vqu z).1,(vqu z).2.1,(vqu z).2.2⟩):=by
 rcases x with x|x<;>kernel_rfl
theorem wpu:∀sp,(vij 0)=some sp→vvj G112 ⟨2,42,vij⟩ sp (vfk f101 0):=by
 intro sp hsp vals st k r h
 cases hsp
 dsimp only at h
 rcases vc1 h with⟨p,q,rfl,rfl,h⟩|h
 ·exact veq (fun x=>(n103n_bp0 x).p) vuk vuo vqu (fun z=>by rcases z with z|z<;>(intro h;cases h)) v6s Fuel (.inl (p.2.2.1,p.2.2.2.1,q.1.1,q.1.2,q.2.1.1)) _ k r (fun z=>by rcases z with z|z<;>rfl) h
 rcases vc1 h with⟨p,q,rfl,rfl,h⟩|h
 ·exact veq (fun x=>(n103n_bp0 x).p) vuk vuo vqu (fun z=>by rcases z with z|z<;>(intro h;cases h)) v6s Fuel (.inr (p.2.2.1,p.2.2.2.1,q.1.1,q.1.2,q.2.1.1)) _ k r (fun z=>by rcases z with z|z<;>rfl) h
 cases h
def vix:Nat→Option LoopSpec
 |0=>some ⟨[0,1,5,6],[],fun vals st k=>vae [.own 0,.fn 122 [.bp 1 0],.i,.i] [.mov tTxn 0,.box [.i,.i,.i,.i,.dead,.dead,.bool,.str]] vals st (fun p q=>vad vgq Fuel (.inl (p.2.2.1,p.2.2.2.1,q.1.1,q.1.2,q.2.1.1,q.2.1.2.1,q.2.1.2.2.1,q.2.1.2.2.2.1,q.2.1.2.2.2.2.2.2.1,q.2.1.2.2.2.2.2.2.2.1)) (Sum.elim (fun z=>k (.exit 0) [.own 0,.fn 122 [.bp 1 0],.i z.1,.i z.2.1] [.dep tTxn z.2.2.1 0 z.2.2.2.1,.box [.i z.2.2.2.2.1,.i z.2.2.2.2.2.1,.i z.2.2.2.2.2.2.1,.i z.2.2.2.2.2.2.2.1,.dead,.dead,.bool z.2.2.2.2.2.2.2.2.1,.str z.2.2.2.2.2.2.2.2.2]]) (fun z=>k (.exit 0) [.own 0,.fn 122 [.bp 1 0],.i z.1,.i z.2.1] [.dep tTxn z.2.2.1 1 z.2.2.2.1,.box [.i z.2.2.2.2.1,.i z.2.2.2.2.2.1,.i z.2.2.2.2.2.2.1,.i z.2.2.2.2.2.2.2.1,.dead,.dead,.bool z.2.2.2.2.2.2.2.2.1,.str z.2.2.2.2.2.2.2.2.2]])))
   (vae [.own 0,.fn 122 [.bp 1 0],.i,.i] [.mov tTxn 1,.box [.i,.i,.i,.i,.dead,.dead,.bool,.str]] vals st (fun p q=>vad vgq Fuel (.inr (p.2.2.1,p.2.2.2.1,q.1.1,q.1.2,q.2.1.1,q.2.1.2.1,q.2.1.2.2.1,q.2.1.2.2.2.1,q.2.1.2.2.2.2.2.2.1,q.2.1.2.2.2.2.2.2.2.1)) (Sum.elim (fun z=>k (.exit 0) [.own 0,.fn 122 [.bp 1 0],.i z.1,.i z.2.1] [.dep tTxn z.2.2.1 0 z.2.2.2.1,.box [.i z.2.2.2.2.1,.i z.2.2.2.2.2.1,.i z.2.2.2.2.2.2.1,.i z.2.2.2.2.2.2.2.1,.dead,.dead,.bool z.2.2.2.2.2.2.2.2.1,.str z.2.2.2.2.2.2.2.2.2]]) (fun z=>k (.exit 0) [.own 0,.fn 122 [.bp 1 0],.i z.1,.i z.2.1] [.dep tTxn z.2.2.1 1 z.2.2.2.1,.box [.i z.2.2.2.2.1,.i z.2.2.2.2.2.1,.i z.2.2.2.2.2.2.1,.i z.2.2.2.2.2.2.2.1,.dead,.dead,.bool z.2.2.2.2.2.2.2.2.1,.str z.2.2.2.2.2.2.2.2.2]])))
   (none))⟩
 |_=>none
def vum:((Int×Int×TL×(List Nat)×Int×Int×Int×Int×Bool×ByteArray)⊕(Int×Int×TL×(List Nat)×Int×Int×Int×Int×Bool×ByteArray))→List AV:=(Sum.elim (fun x=>[.own 0,.fn 122 [.bp 1 0],.i x.1,.i x.2.1]) (fun x=>[.own 0,.fn 122 [.bp 1 0],.i x.1,.i x.2.1]))
def vuh:((Int×Int×TL×(List Nat)×Int×Int×Int×Int×Bool×ByteArray)⊕(Int×Int×TL×(List Nat)×Int×Int×Int×Int×Bool×ByteArray))→St:=(Sum.elim (fun x=>[.dep tTxn x.2.2.1 0 x.2.2.2.1,.box [.i x.2.2.2.2.1,.i x.2.2.2.2.2.1,.i x.2.2.2.2.2.2.1,.i x.2.2.2.2.2.2.2.1,.dead,.dead,.bool x.2.2.2.2.2.2.2.2.1,.str x.2.2.2.2.2.2.2.2.2]]) (fun x=>[.dep tTxn x.2.2.1 1 x.2.2.2.1,.box [.i x.2.2.2.2.1,.i x.2.2.2.2.2.1,.i x.2.2.2.2.2.2.1,.i x.2.2.2.2.2.2.2.1,.dead,.dead,.bool x.2.2.2.2.2.2.2.2.1,.str x.2.2.2.2.2.2.2.2.2]]))
def vqc:((Int×Int×TL×(List Nat)×Int×Int×Int×Int×Bool×ByteArray)⊕(Int×Int×TL×(List Nat)×Int×Int×Int×Int×Bool×ByteArray))→Out×List AV×St:=(Sum.elim (fun z=>((.exit 0),[.own 0,.fn 122 [.bp 1 0],.i z.1,.i z.2.1],[.dep tTxn z.2.2.1 0 z.2.2.2.1,.box [.i z.2.2.2.2.1,.i z.2.2.2.2.2.1,.i z.2.2.2.2.2.2.1,.i z.2.2.2.2.2.2.2.1,.dead,.dead,.bool z.2.2.2.2.2.2.2.2.1,.str z.2.2.2.2.2.2.2.2.2]])) (fun z=>((.exit 0),[.own 0,.fn 122 [.bp 1 0],.i z.1,.i z.2.1],[.dep tTxn z.2.2.1 1 z.2.2.2.1,.box [.i z.2.2.2.2.1,.i z.2.2.2.2.2.1,.i z.2.2.2.2.2.2.1,.i z.2.2.2.2.2.2.2.1,.dead,.dead,.bool z.2.2.2.2.2.2.2.2.1,.str z.2.2.2.2.2.2.2.2.2]])))
theorem v74 (x:((Int×Int×TL×(List Nat)×Int×Int×Int×Int×Bool×ByteArray)⊕(Int×Int×TL×(List Nat)×Int×Int×Int×Int×Bool×ByteArray))):exec G112 ⟨2,42,vix⟩ (vfk f101 0) (vo2 ⟨2,42,vix⟩ [0,1,5,6] []) (vh2 (vgy 42) [0,1,5,6] (vum x)) (vuh x)=vgq x (Sum.elim (fun y=>some ⟨.norm,vum y,vuh y⟩) fun z=>some ⟨(vqc z).1,(vqc z).2.1,(vqc z).2.2⟩):=by
 rcases x with x|x<;>kernel_rfl
theorem wkk:∀sp,(vix 0)=some sp→vvj G112 ⟨2,42,vix⟩ sp (vfk f101 0):=by
 intro sp hsp vals st k r h
 cases hsp
 dsimp only at h
 rcases vc1 h with⟨p,q,rfl,rfl,h⟩|h
 ·exact veq (fun x=>(n102n_bp0 x).p) vum vuh vqc (fun z=>by rcases z with z|z<;>(intro h;cases h)) v74 Fuel (.inl (p.2.2.1,p.2.2.2.1,q.1.1,q.1.2,q.2.1.1,q.2.1.2.1,q.2.1.2.2.1,q.2.1.2.2.2.1,q.2.1.2.2.2.2.2.2.1,q.2.1.2.2.2.2.2.2.2.1)) _ k r (fun z=>by rcases z with z|z<;>rfl) h
 rcases vc1 h with⟨p,q,rfl,rfl,h⟩|h
 ·exact veq (fun x=>(n102n_bp0 x).p) vum vuh vqc (fun z=>by rcases z with z|z<;>(intro h;cases h)) v74 Fuel (.inr (p.2.2.1,p.2.2.2.1,q.1.1,q.1.2,q.2.1.1,q.2.1.2.1,q.2.1.2.2.1,q.2.1.2.2.2.1,q.2.1.2.2.2.2.2.2.1,q.2.1.2.2.2.2.2.2.2.1)) _ k r (fun z=>by rcases z with z|z<;>rfl) h
 cases h
theorem vlw:vab prog 101 vbq:=by
 refine told G112_ok follows func101 (c:=f101.body.getD .skip) (by kernel_rfl) ?_
 intro args s k r hk
 unfold vbq at hk
 rcases vam hk with⟨p,q,rfl,rfl⟩|hk
 ·exact⟨vis,(n104n_p q.1 q.2.1.1).p.map2 _ _,by unfold vbq;rw [v9l];kernel_rfl,vaa (ids:=[0]) (by kernel_rfl) (by kernel_rfl) ⟨wmn,trivial⟩⟩
 rcases vam hk with⟨p,q,rfl,rfl⟩|hk
 ·exact⟨vij,(n103n_p q.1 q.2.1.1).p.map2 _ _,by unfold vbq;rw [waz];kernel_rfl,vaa (ids:=[0]) (by kernel_rfl) (by kernel_rfl) ⟨wpu,trivial⟩⟩
 rcases vam hk with⟨p,q,rfl,rfl⟩|hk
 ·exact⟨vix,(n102n_p q.1 q.2.1.1 q.2.1.2.1 q.2.1.2.2.1 q.2.1.2.2.2.1 q.2.1.2.2.2.2.2.2.1 q.2.1.2.2.2.2.2.2.2.1).p.map2 _ _,by unfold vbq;rw [wa5];kernel_rfl,vaa (ids:=[0]) (by kernel_rfl) (by kernel_rfl) ⟨wkk,trivial⟩⟩
 cases hk
def G113:Glob:=G112.add 101 vbq
theorem G113_ok:GlobOk prog G113:=G112_ok.add ⟨f101,func101,by kernel_rfl,by kernel_rfl⟩ vlw
def whu:Nat→Option LoopSpec
 |_=>none
theorem w01:vab prog 91 wt9:=
 vaz G113_ok follows (f91.body.getD .skip) func91 (by kernel_rfl) fun p q=>⟨whu,(n86n_p ..).p.map _,by rw [wpn];kernel_rfl,vaa (ids:=[]) (by kernel_rfl) (by kernel_rfl) trivial⟩
def G114:Glob:=G113.add 91 wt9
theorem G114_ok:GlobOk prog G114:=G113_ok.add ⟨f91,func91,by kernel_rfl,by kernel_rfl⟩ w01
def wam:q49T→List AV:=fun x=>[.i x.1,.lst tTxn x.2.1,.i x.2.2.1,.i x.2.2.2]
def wbb:q49T→St:=fun x=>[]
def v11:Nat→Option LoopSpec
 |0=>some (lpS [5,10,11,12] [] [.i,.lst tTxn,.i,.i] [] vnw (fun p q=>(p.1,p.2.1,p.2.2.1,p.2.2.2.1)) (fun k=>(onE (exZ (.exit 0) wam wbb) k)))
 |_=>none
theorem wr6:LpAt G114 ⟨0,22,v11⟩ f43 0:=
 va2 rfl (fun x=>(n28n_bp0 x).p) wam wbb (exZ (.exit 0) wam wbb) (fun _ _=>⟨rfl,rfl⟩) (fun z=>by(intro h;cases h)) (fun _ _=>rfl) (fun x=>by kernel_rfl)
theorem wzq:vab prog 43 wtu:=
 vaz G114_ok follows (f43.body.getD .skip) func43 (by kernel_rfl) fun p q=>⟨v11,(n28n_p ..).p.map _,by rw [wn4];kernel_rfl,vaa (ids:=[0]) (by kernel_rfl) (by kernel_rfl) ⟨wr6,trivial⟩⟩
def G115:Glob:=G114.add 43 wtu
theorem G115_ok:GlobOk prog G115:=G114_ok.add ⟨f43,func43,by kernel_rfl,by kernel_rfl⟩ wzq
def v8g:q44T→List AV:=fun x=>[.str x.1,.i x.2.1,.own 1,.i x.2.2.1,.i x.2.2.2.1]
def v87:q44T→St:=fun x=>[.box [.own 1],.arr tVersion x.2.2.2.2]
def v07:Nat→Option LoopSpec
 |0=>some (lpS [0,4,7,8,9] [] [.str,.i,.own 1,.i,.i] [.box [.own 1],.arr tVersion] voj (fun p q=>(p.1,p.2.1,p.2.2.2.1,p.2.2.2.2.1,q.2.1)) (fun k=>(onE (exZ (.exit 0) v8g v87) k)))
 |_=>none
theorem ws7:LpAt G115 ⟨2,21,v07⟩ f178 0:=
 va2 rfl (fun x=>(n54n_bp0 x).p) v8g v87 (exZ (.exit 0) v8g v87) (fun _ _=>⟨rfl,rfl⟩) (fun z=>by(intro h;cases h)) (fun _ _=>rfl) (fun x=>by kernel_rfl)
theorem w1j:vab prog 178 wuq:=
 vaz G115_ok follows (f178.body.getD .skip) func178 (by kernel_rfl) fun p q=>⟨v07,(n54n_p ..).p.map _,by rw [wjm];kernel_rfl,vaa (ids:=[0]) (by kernel_rfl) (by kernel_rfl) ⟨ws7,trivial⟩⟩
def G116:Glob:=G115.add 178 wuq
theorem G116_ok:GlobOk prog G116:=G115_ok.add ⟨f178,func178,by kernel_rfl,by kernel_rfl⟩ w1j
def viq:q18T→List AV:=fun x=>[.lst tVersion x.1,.i x.2.1,.bp 0 0,.bp 1 0,.lst tVersion x.2.2.1,.i x.2.2.2.1,.i x.2.2.2.2.1,.bool x.2.2.2.2.2.1]
def vih:q18T→St:=fun x=>let xh:=x.2.2.2.2;[.box [.own 2],.box [.str xh.2.2.1,.str xh.2.2.2.1,.bool xh.2.2.2.2.1,.i xh.2.2.2.2.2.1],.arr tVersion xh.2.2.2.2.2.2]
def wbn:q17T→List AV:=fun x=>[.lst tVersion x.1,.i x.2.1,.bp 0 0,.lst tVersion x.2.2.1,.i x.2.2.2.1,.i x.2.2.2.2.1]
def v86:q17T→St:=fun x=>[.box [.own 1],.arr tVersion x.2.2.2.2.2]
def v8r:q61T→List AV:=fun x=>[.i x.1,.fn 178 [.bp 0 0],.own 1,.own 2,.i x.2.1,.i x.2.2.1]
def wap:q61T→St:=fun x=>[.box [.own 2],.arr tVersion x.2.2.2.1,.arr tVersion x.2.2.2.2]
def vol:Nat→Option LoopSpec
 |15000006=>some (ctS [0,1,5,7,12,13,14,31] [none,none,none,none,none,none,none,none,some tVersion] [.lst tVersion,.i,.bp 0 0,.bp 1 0,.lst tVersion,.i,.i,.bool] [.box [.own 2],.box [.str,.str,.bool,.i],.arr tVersion] vdq (fun p q=>(p.1,p.2.1,p.2.2.2.2.1,p.2.2.2.2.2.1,p.2.2.2.2.2.2.1,p.2.2.2.2.2.2.2.1,q.2.1.1,q.2.1.2.1,q.2.1.2.2.1,q.2.1.2.2.2.1,q.2.2.1)) (fun k=>(onE (exZ .norm viq vih) k)))
 |0=>some (lpS [0,1,5,12,13,14] [none,none,none,none,none,none,some tVersion] [.lst tVersion,.i,.bp 0 0,.lst tVersion,.i,.i] [.box [.own 1],.arr tVersion] vod (fun p q=>(p.1,p.2.1,p.2.2.2.1,p.2.2.2.2.1,p.2.2.2.2.2.1,q.2.1)) (fun k=>(onE (exZ (.exit 0) wbn v86) k)))
 |2=>some (lpS [1,8,9,38,39,40] [none,none,some tVersion,some tVersion,none,none,some tVersion] [.i,.fn 178 [.bp 0 0],.own 1,.own 2,.i,.i] [.box [.own 2],.arr tVersion,.arr tVersion] vn7 (fun p q=>(p.1,p.2.2.2.2.1,p.2.2.2.2.2.1,q.2.1,q.2.2.1)) (fun k=>(onE (exZ (.exit 2) v8r wap) k)))
 |_=>none
theorem vvz:CtAt G116 ⟨0,66,vol⟩ f111 15000006:=
 vgt rfl (fun x=>(n53n_jp15000006 x).p) viq vih (exZ .norm viq vih) (fun _ _=>⟨rfl,rfl⟩) (fun _ _=>rfl) (fun x=>by kernel_rfl)
theorem wr5:LpAt G116 ⟨0,66,vol⟩ f111 0:=
 va2 rfl (fun x=>(n53n_bp0 x).p) wbn v86 (exZ (.exit 0) wbn v86) (fun _ _=>⟨rfl,rfl⟩) (fun z=>by(intro h;cases h)) (fun _ _=>rfl) (fun x=>by kernel_rfl)
theorem wsf:LpAt G116 ⟨0,66,vol⟩ f111 2:=
 va2 rfl (fun x=>(n53n_bp2 x).p) v8r wap (exZ (.exit 2) v8r wap) (fun _ _=>⟨rfl,rfl⟩) (fun z=>by(intro h;cases h)) (fun _ _=>rfl) (fun x=>by kernel_rfl)
theorem wz7:vab prog 111 wt7:=
 vaz G116_ok follows (f111.body.getD .skip) func111 (by kernel_rfl) fun p q=>⟨vol,(n53n_p ..).p.map _,by rw [wl7];kernel_rfl,vaa (ids:=[15000006,0,2]) (by kernel_rfl) (by kernel_rfl) ⟨vvz,⟨wr5,⟨wsf,trivial⟩⟩⟩⟩
def G117:Glob:=G116.add 111 wt7
theorem G117_ok:GlobOk prog G117:=G116_ok.add ⟨f111,func111,by kernel_rfl,by kernel_rfl⟩ wz7
def whr:Nat→Option LoopSpec
 |_=>none
theorem w1x:vab prog 42 wu8:=
 vaz G117_ok follows (f42.body.getD .skip) func42 (by kernel_rfl) fun p q=>⟨whr,(n50n_p ..).p.map _,by rw [wlu];kernel_rfl,vaa (ids:=[]) (by kernel_rfl) (by kernel_rfl) trivial⟩
def G118:Glob:=G117.add 42 wu8
theorem G118_ok:GlobOk prog G118:=G117_ok.add ⟨f42,func42,by kernel_rfl,by kernel_rfl⟩ w1x
def whc:Nat→Option LoopSpec
 |_=>none
theorem w1h:vab prog 90 wug:=
 vaz G118_ok follows (f90.body.getD .skip) func90 (by kernel_rfl) fun p q=>⟨whc,(n25n_p ..).p.map _,by rw [wpo];kernel_rfl,vaa (ids:=[]) (by kernel_rfl) (by kernel_rfl) trivial⟩
def G119:Glob:=G118.add 90 wug
theorem G119_ok:GlobOk prog G119:=G118_ok.add ⟨f90,func90,by kernel_rfl,by kernel_rfl⟩ w1h
def v9r:(ByteArray×Int×Int×Int×Int×Int×Int×RL×WL×Bool×ByteArray×Int×Int×Int×Int×Int×Int×Int×Int×Bool×ByteArray×TL×TL×TL×(List Nat)×VL×TL×TL×VL×TL×RL×WL)→List AV:=fun x=>[.str x.1,.bp 0 0,.bp 1 0,.bp 2 0,.bp 3 0,.own 4,.own 5,.own 6,.i x.2.1,.i x.2.2.1]
def v9f:(ByteArray×Int×Int×Int×Int×Int×Int×RL×WL×Bool×ByteArray×Int×Int×Int×Int×Int×Int×Int×Int×Bool×ByteArray×TL×TL×TL×(List Nat)×VL×TL×TL×VL×TL×RL×WL)→St:=fun x=>let xh:=x.2.2.2.2;let xi:=xh.2.2.2.2;let xj:=xi.2.2.2.2;let xk:=xj.2.2.2.2;let xl:=xk.2.2.2.2;let xm:=xl.2.2.2.2;[.box [.i x.2.2.2.1,.i xh.1,.i xh.2.1,.i xh.2.2.1,.lst tRange xh.2.2.2.1,.lst tWrite xi.1,.bool xi.2.1,.str xi.2.2.1],.box [.own 7,.own 8,.own 9,.i xi.2.2.2.1,.i xj.1],.box [.own 10,.own 11,.own 6,.i xj.2.1,.i xj.2.2.1],.box [.i xj.2.2.2.1,.i xk.1,.i xk.2.1,.i xk.2.2.1,.own 12,.own 13,.bool xk.2.2.2.1,.str xl.1],.dep tTxn xl.2.1 0 [],.dep tTxn xl.2.2.1 0 [],.dep tTxn xl.2.2.2.1 0 xm.1,.arr tVersion xm.2.1,.dep tTxn xm.2.2.1 0 [],.dep tTxn xm.2.2.2.1 0 [],.arr tVersion xm.2.2.2.2.1,.dep tTxn xm.2.2.2.2.2.1 0 [],.arr tRange xm.2.2.2.2.2.2.1,.arr tWrite xm.2.2.2.2.2.2.2]
def vzz:q45T→List AV:=fun x=>[.str x.1,.bp 0 0,.bp 1 0,.bp 2 0,.bp 3 0]
def vz3:q45T→St:=fun x=>let xh:=x.2.2.2.2;let xi:=xh.2.2.2.2;let xj:=xi.2.2.2.2;let xk:=xj.2.2.2.2;let xl:=xk.2.2.2.2;[.box [.i x.2.1,.i x.2.2.1,.i x.2.2.2.1,.i xh.1,.lst tRange xh.2.1,.lst tWrite xh.2.2.1,.bool xh.2.2.2.1,.str xi.1],.box [.own 4,.own 5,.own 6,.i xi.2.1,.i xi.2.2.1],.box [.own 7,.own 8,.own 9,.i xi.2.2.2.1,.i xj.1],.box [.i xj.2.1,.i xj.2.2.1,.i xj.2.2.2.1,.i xk.1,.own 10,.own 11,.bool xk.2.1,.str xk.2.2.1],.arr tVersion xk.2.2.2.1,.dep tTxn xl.1 0 [],.dep tTxn xl.2.1 0 [],.arr tVersion xl.2.2.1,.dep tTxn xl.2.2.2.1 0 [],.dep tTxn xl.2.2.2.2.1 0 [],.arr tRange xl.2.2.2.2.2.1,.arr tWrite xl.2.2.2.2.2.2]
def voe:q46T→Out×List AV×St:=fun z=>let zh:=z.2.2.2.2;let zi:=zh.2.2.2.2;let zj:=zi.2.2.2.2;let zk:=zj.2.2.2.2;(.ret,[.str z.1,.bp 0 0,.bp 1 0,.bp 2 0,.bp 3 0],[.box [.i z.2.1,.i z.2.2.1,.i z.2.2.2.1,.i zh.1,.lst tRange zh.2.1,.lst tWrite zh.2.2.1,.bool zh.2.2.2.1,.str zi.1],.box [.own 4,.own 5,.own 6,.i zi.2.1,.i zi.2.2.1],.box [.own 4,.own 5,.own 6,.i zi.2.2.2.1,.i zj.1],.box [.i zj.2.1,.i zj.2.2.1,.i zj.2.2.2.1,.i zk.1,.dead,.dead,.bool zk.2.1,.str zk.2.2.1],.arr tVersion zk.2.2.2.1,.dep tTxn zk.2.2.2.2.1 0 [],.dep tTxn zk.2.2.2.2.2 0 []])
def vs5:Nat→Option LoopSpec
 |0=>some (lpS [2,4,6,7,8,9,10,30,31,32] [none,none,none,none,none,some tTxn,some tTxn,none,none,none,none,none,none,none,none,none,none,none,some tVersion,some tTxn,some tTxn] [.str,.bp 0 0,.bp 1 0,.bp 2 0,.bp 3 0,.own 4,.own 5,.own 6,.i,.i] [.box [.i,.i,.i,.i,.lst tRange,.lst tWrite,.bool,.str],.box [.own 7,.own 8,.own 9,.i,.i],.box [.own 10,.own 11,.own 6,.i,.i],.box [.i,.i,.i,.i,.own 12,.own 13,.bool,.str],.dep tTxn 0,.dep tTxn 0,.mov tTxn 0,.arr tVersion,.dep tTxn 0,.dep tTxn 0,.arr tVersion,.dep tTxn 0,.arr tRange,.arr tWrite] vmv (fun p q=>(p.1,p.2.2.2.2.2.2.2.2.1,p.2.2.2.2.2.2.2.2.2.1,q.1.1,q.1.2.1,q.1.2.2.1,q.1.2.2.2.1,q.1.2.2.2.2.1,q.1.2.2.2.2.2.1,q.1.2.2.2.2.2.2.1,q.1.2.2.2.2.2.2.2.1,q.2.1.2.2.2.1,q.2.1.2.2.2.2.1,q.2.2.1.2.2.2.1,q.2.2.1.2.2.2.2.1,q.2.2.2.1.1,q.2.2.2.1.2.1,q.2.2.2.1.2.2.1,q.2.2.2.1.2.2.2.1,q.2.2.2.1.2.2.2.2.2.2.1,q.2.2.2.1.2.2.2.2.2.2.2.1,q.2.2.2.2.1,q.2.2.2.2.2.1,q.2.2.2.2.2.2.1.1,q.2.2.2.2.2.2.1.2,q.2.2.2.2.2.2.2.1,q.2.2.2.2.2.2.2.2.1,q.2.2.2.2.2.2.2.2.2.1,q.2.2.2.2.2.2.2.2.2.2.1,q.2.2.2.2.2.2.2.2.2.2.2.1,q.2.2.2.2.2.2.2.2.2.2.2.2.1,q.2.2.2.2.2.2.2.2.2.2.2.2.2.1)) (fun k=>(onE (exZ (.exit 0) v9r v9f) k)))
 |5000004=>some (ctS [2,4,6,7,8] [none,none,none,none,none,none,none,none,none,none,none,none,none,some tVersion,some tTxn,some tTxn] [.str,.bp 0 0,.bp 1 0,.bp 2 0,.bp 3 0] [.box [.i,.i,.i,.i,.lst tRange,.lst tWrite,.bool,.str],.box [.own 4,.own 5,.own 6,.i,.i],.box [.own 7,.own 8,.own 9,.i,.i],.box [.i,.i,.i,.i,.own 10,.own 11,.bool,.str],.arr tVersion,.dep tTxn 0,.dep tTxn 0,.arr tVersion,.dep tTxn 0,.dep tTxn 0,.arr tRange,.arr tWrite] vc5 (fun p q=>(p.1,q.1.1,q.1.2.1,q.1.2.2.1,q.1.2.2.2.1,q.1.2.2.2.2.1,q.1.2.2.2.2.2.1,q.1.2.2.2.2.2.2.1,q.1.2.2.2.2.2.2.2.1,q.2.1.2.2.2.1,q.2.1.2.2.2.2.1,q.2.2.1.2.2.2.1,q.2.2.1.2.2.2.2.1,q.2.2.2.1.1,q.2.2.2.1.2.1,q.2.2.2.1.2.2.1,q.2.2.2.1.2.2.2.1,q.2.2.2.1.2.2.2.2.2.2.1,q.2.2.2.1.2.2.2.2.2.2.2.1,q.2.2.2.2.1,q.2.2.2.2.2.1,q.2.2.2.2.2.2.1,q.2.2.2.2.2.2.2.1,q.2.2.2.2.2.2.2.2.1,q.2.2.2.2.2.2.2.2.2.1,q.2.2.2.2.2.2.2.2.2.2.1,q.2.2.2.2.2.2.2.2.2.2.2.1)) (fun k=>(onE voe k)))
 |_=>none
theorem wrz:LpAt G119 ⟨0,64,vs5⟩ f30 0:=
 va2 rfl (fun x=>(n26n_bp0 x).p) v9r v9f (exZ (.exit 0) v9r v9f) (fun _ _=>⟨rfl,rfl⟩) (fun z=>by(intro h;cases h)) (fun _ _=>rfl) (fun x=>by kernel_rfl)
theorem vzk:CtAt G119 ⟨0,64,vs5⟩ f30 5000004:=
 vgt rfl (fun x=>(n26n_jp5000004 x).p) vzz vz3 voe (fun _ _=>⟨rfl,rfl⟩) (fun _ _=>rfl) (fun x=>by kernel_rfl)
theorem wzp:vab prog 30 wva:=
 vaz G119_ok follows (f30.body.getD .skip) func30 (by kernel_rfl) fun p q=>⟨vs5,(n26n_p ..).p.map _,by rw [wkd];kernel_rfl,vaa (ids:=[0,5000004]) (by kernel_rfl) (by kernel_rfl) ⟨wrz,⟨vzk,trivial⟩⟩⟩
def G120:Glob:=G119.add 30 wva
theorem G120_ok:GlobOk prog G120:=G119_ok.add ⟨f30,func30,by kernel_rfl,by kernel_rfl⟩ wzp
def vkk:q53T→List AV:=fun x=>[.i x.1,.str x.2.1,.bp 0 0,.bp 1 0,.bp 2 0,.i x.2.2.1,.i x.2.2.2.1,.i x.2.2.2.2.1]
def vkq:q53T→St:=fun x=>let xh:=x.2.2.2.2;let xi:=xh.2.2.2.2;let xj:=xi.2.2.2.2;let xk:=xj.2.2.2.2;let xl:=xk.2.2.2.2;let xm:=xl.2.2.2.2;[.box [.lst tVersion xh.2.1,.lst tTxn xh.2.2.1,.lst tTxn xh.2.2.2.1,.i xi.1,.i xi.2.1,.lst tTxn xi.2.2.1],.box [.own 3,.own 4,.own 5,.i xi.2.2.2.1,.i xj.1,.own 6],.box [.i xj.2.1,.i xj.2.2.1,.i xj.2.2.2.1,.i xk.1,.i xk.2.1,.own 7,.own 8,.bool xk.2.2.1,.str xk.2.2.2.1,.str xl.1,.bool xl.2.1,.nilS,.nilS,.nilS,.i xl.2.2.1,.i xl.2.2.2.1],.arr tVersion xm.1,.dep tTxn xm.2.1 0 [],.dep tTxn xm.2.2.1 0 [],.dep tTxn xm.2.2.2.1 0 [],.arr tRange xm.2.2.2.2.1,.arr tWrite xm.2.2.2.2.2]
def vky:q53T→List AV:=fun x=>[.i x.1,.str x.2.1,.bp 0 0,.bp 1 0,.bp 2 0,.i x.2.2.1,.i x.2.2.2.1,.i x.2.2.2.2.1]
def vkl:q53T→St:=fun x=>let xh:=x.2.2.2.2;let xi:=xh.2.2.2.2;let xj:=xi.2.2.2.2;let xk:=xj.2.2.2.2;let xl:=xk.2.2.2.2;let xm:=xl.2.2.2.2;[.box [.lst tVersion xh.2.1,.lst tTxn xh.2.2.1,.lst tTxn xh.2.2.2.1,.i xi.1,.i xi.2.1,.lst tTxn xi.2.2.1],.box [.own 3,.own 4,.own 5,.i xi.2.2.2.1,.i xj.1,.own 6],.box [.i xj.2.1,.i xj.2.2.1,.i xj.2.2.2.1,.i xk.1,.i xk.2.1,.own 7,.own 8,.bool xk.2.2.1,.str xk.2.2.2.1,.str xl.1,.bool xl.2.1,.nilS,.nilS,.nilS,.i xl.2.2.1,.i xl.2.2.2.1],.arr tVersion xm.1,.dep tTxn xm.2.1 0 [],.dep tTxn xm.2.2.1 0 [],.dep tTxn xm.2.2.2.1 0 [],.arr tRange xm.2.2.2.2.1,.arr tWrite xm.2.2.2.2.2]
def vsz:Nat→Option LoopSpec
 |5000013=>some (ctS [1,2,3,6,7,8,9,10] [none,none,none,none,none,none,none,none,none,none,none,none,none,none,some tVersion,some tTxn,some tTxn,none,none,some tTxn,none,none,none,none,none,some tRange,some tWrite] [.i,.str,.bp 0 0,.bp 1 0,.bp 2 0,.i,.i,.i] [.box [.lst tVersion,.lst tTxn,.lst tTxn,.i,.i,.lst tTxn],.box [.own 3,.own 4,.own 5,.i,.i,.own 6],.box [.i,.i,.i,.i,.i,.own 7,.own 8,.bool,.str,.str,.bool,.nilS,.nilS,.nilS,.i,.i],.arr tVersion,.dep tTxn 0,.dep tTxn 0,.dep tTxn 0,.arr tRange,.arr tWrite] vc4 (fun p q=>(p.1,p.2.1,p.2.2.2.2.2.1,p.2.2.2.2.2.2.1,p.2.2.2.2.2.2.2.1,q.1.1,q.1.2.1,q.1.2.2.1,q.1.2.2.2.1,q.1.2.2.2.2.1,q.1.2.2.2.2.2.1,q.2.1.2.2.2.1,q.2.1.2.2.2.2.1,q.2.2.1.1,q.2.2.1.2.1,q.2.2.1.2.2.1,q.2.2.1.2.2.2.1,q.2.2.1.2.2.2.2.1,q.2.2.1.2.2.2.2.2.2.2.1,q.2.2.1.2.2.2.2.2.2.2.2.1,q.2.2.1.2.2.2.2.2.2.2.2.2.1,q.2.2.1.2.2.2.2.2.2.2.2.2.2.1,q.2.2.1.2.2.2.2.2.2.2.2.2.2.2.2.2.2.1,q.2.2.1.2.2.2.2.2.2.2.2.2.2.2.2.2.2.2.1,q.2.2.2.1,q.2.2.2.2.1,q.2.2.2.2.2.1,q.2.2.2.2.2.2.1,q.2.2.2.2.2.2.2.1,q.2.2.2.2.2.2.2.2.1)) (fun k=>(onE (exZ .ret vkk vkq) k)))
 |5000011=>some (ctS [1,2,3,6,7,8,9,10] [none,none,none,none,none,none,none,none,none,none,none,none,none,none,some tVersion,some tTxn,some tTxn,none,none,some tTxn,none,none,none,none,none,some tRange,some tWrite] [.i,.str,.bp 0 0,.bp 1 0,.bp 2 0,.i,.i,.i] [.box [.lst tVersion,.lst tTxn,.lst tTxn,.i,.i,.lst tTxn],.box [.own 3,.own 4,.own 5,.i,.i,.own 6],.box [.i,.i,.i,.i,.i,.own 7,.own 8,.bool,.str,.str,.bool,.nilS,.nilS,.nilS,.i,.i],.arr tVersion,.dep tTxn 0,.dep tTxn 0,.dep tTxn 0,.arr tRange,.arr tWrite] vb9 (fun p q=>(p.1,p.2.1,p.2.2.2.2.2.1,p.2.2.2.2.2.2.1,p.2.2.2.2.2.2.2.1,q.1.1,q.1.2.1,q.1.2.2.1,q.1.2.2.2.1,q.1.2.2.2.2.1,q.1.2.2.2.2.2.1,q.2.1.2.2.2.1,q.2.1.2.2.2.2.1,q.2.2.1.1,q.2.2.1.2.1,q.2.2.1.2.2.1,q.2.2.1.2.2.2.1,q.2.2.1.2.2.2.2.1,q.2.2.1.2.2.2.2.2.2.2.1,q.2.2.1.2.2.2.2.2.2.2.2.1,q.2.2.1.2.2.2.2.2.2.2.2.2.1,q.2.2.1.2.2.2.2.2.2.2.2.2.2.1,q.2.2.1.2.2.2.2.2.2.2.2.2.2.2.2.2.2.1,q.2.2.1.2.2.2.2.2.2.2.2.2.2.2.2.2.2.2.1,q.2.2.2.1,q.2.2.2.2.1,q.2.2.2.2.2.1,q.2.2.2.2.2.2.1,q.2.2.2.2.2.2.2.1,q.2.2.2.2.2.2.2.2.1)) (fun k=>(onE (exZ .ret vky vkl) k)))
 |2000009=>some ⟨[0,2,4,6,8,10,12,14,16,19,21,22],[],fun _ _ _=>none⟩
 |1000020=>some ⟨[1],[],fun _ _ _=>none⟩
 |3000000=>some ⟨[],[none,none,none,none,none,none,none,none,none,none,none,some tRange,some tWrite],fun _ _ _=>none⟩
 |_=>none
theorem vy3:CtAt G120 ⟨0,104,vsz⟩ f25 5000013:=
 vgt rfl (fun x=>(n34n_jp5000013 x).p) vkk vkq (exZ .ret vkk vkq) (fun _ _=>⟨rfl,rfl⟩) (fun _ _=>rfl) (fun x=>by kernel_rfl)
theorem vz1:CtAt G120 ⟨0,104,vsz⟩ f25 5000011:=
 vgt rfl (fun x=>(n34n_jp5000011 x).p) vky vkl (exZ .ret vky vkl) (fun _ _=>⟨rfl,rfl⟩) (fun _ _=>rfl) (fun x=>by kernel_rfl)
theorem w16:vab prog 25 wvr:=
 vaz G120_ok follows (f25.body.getD .skip) func25 (by kernel_rfl) fun p q=>⟨vsz,(n34n_p ..).p.map _,by rw [v0u];kernel_rfl,vaa (ids:=[5000013,5000011]) (by kernel_rfl) (by kernel_rfl) ⟨vy3,⟨vz1,trivial⟩⟩⟩
def G121:Glob:=G120.add 25 wvr
theorem G121_ok:GlobOk prog G121:=G120_ok.add ⟨f25,func25,by kernel_rfl,by kernel_rfl⟩ w16
def wh6:Nat→Option LoopSpec
 |_=>none
theorem wzf:vab prog 183 wu2:=
 vaz G121_ok follows (f183.body.getD .skip) func183 (by kernel_rfl) fun p q=>⟨wh6,(n37n_p ..).p.map _,by rw [wkr];kernel_rfl,vaa (ids:=[]) (by kernel_rfl) (by kernel_rfl) trivial⟩
def G122:Glob:=G121.add 183 wu2
theorem G122_ok:GlobOk prog G122:=G121_ok.add ⟨f183,func183,by kernel_rfl,by kernel_rfl⟩ wzf
def vri:q19T→List AV:=fun x=>[.lst tVersion x.1,.fn 183 [.bp 0 0],.i x.2.1,.i x.2.2.1,.i x.2.2.2.1]
def vqs:q19T→St:=fun x=>[.box [.str x.2.2.2.2.1,.str x.2.2.2.2.2.1,.bool x.2.2.2.2.2.2.1,.i x.2.2.2.2.2.2.2]]
def vxd:Nat→Option LoopSpec
 |0=>some (lpS [0,1,4,7,8] [] [.lst tVersion,.fn 183 [.bp 0 0],.i,.i,.i] [.box [.str,.str,.bool,.i]] vi7 (fun p q=>(p.1,p.2.2.1,p.2.2.2.1,p.2.2.2.2.1,q.1.1,q.1.2.1,q.1.2.2.1,q.1.2.2.2.1)) (fun k=>(Sum.elim (onE (exZ .ret vri vqs) k) (onE (exZ (.exit 0) vri vqs) k))))
 |_=>none
theorem wmw:LpAt G122 ⟨1,19,vxd⟩ f182 0:=
 va2 rfl (fun x=>(n121n_bp0 x).p) vri vqs (Sum.elim ((exZ .ret vri vqs)) ((exZ (.exit 0) vri vqs))) (fun _ _=>⟨rfl,rfl⟩) (fun z=>by rcases z with z|z<;>(intro h;cases h)) (fun k z=>by rcases z with z|z<;>rfl) (fun x=>by kernel_rfl)
theorem vi1:vab prog 182 ve8:=
 vaz G122_ok follows (f182.body.getD .skip) func182 (by kernel_rfl) fun p q=>⟨vxd,(n121n_p ..).p.map _,by rw [v82];kernel_rfl,vaa (ids:=[0]) (by kernel_rfl) (by kernel_rfl) ⟨wmw,trivial⟩⟩
def G123:Glob:=G122.add 182 ve8
theorem G123_ok:GlobOk prog G123:=G122_ok.add ⟨f182,func182,by kernel_rfl,by kernel_rfl⟩ vi1
theorem vlz:vab prog 184 vd6:=by
 intro args s k r hk
 unfold vd6 at hk
 rw [v97]at hk
 unfold vvd at hk
 exact v42 Tryz.insLayb (by decide) (e:=tVersion) rfl #[.string ⟨#[]⟩,.string ⟨#[]⟩,.bool false,.int IntKind.i64 0] rfl rfl args s k r hk
def G124:Glob:=G123.add 184 vd6
theorem G124_ok:GlobOk prog G124:=G123_ok.add ⟨f184,func184,by kernel_rfl,by kernel_rfl⟩ vlz
def wbe:q50T→List AV:=fun x=>[.i x.1,.own 0,.lst tWrite x.2.1,.i x.2.2.1,.i x.2.2.2.1]
def wbp:q50T→St:=fun x=>[.arr tVersion x.2.2.2.2]
def v03:Nat→Option LoopSpec
 |0=>some (lpS [2,7,14,15,16] [] [.i,.own 0,.lst tWrite,.i,.i] [.arr tVersion] vnv (fun p q=>(p.1,p.2.2.1,p.2.2.2.1,p.2.2.2.2.1,q.1)) (fun k=>(onE (exZ (.exit 0) wbe wbp) k)))
 |_=>none
theorem wqk:LpAt G124 ⟨0,42,v03⟩ f121 0:=
 va2 rfl (fun x=>(n36n_bp0 x).p) wbe wbp (exZ (.exit 0) wbe wbp) (fun _ _=>⟨rfl,rfl⟩) (fun z=>by(intro h;cases h)) (fun _ _=>rfl) (fun x=>by kernel_rfl)
theorem w04:vab prog 121 wud:=
 vaz G124_ok follows (f121.body.getD .skip) func121 (by kernel_rfl) fun p q=>⟨v03,(n36n_p ..).p.map _,by rw [wmb];kernel_rfl,vaa (ids:=[0]) (by kernel_rfl) (by kernel_rfl) ⟨wqk,trivial⟩⟩
def G125:Glob:=G124.add 121 wud
theorem G125_ok:GlobOk prog G125:=G124_ok.add ⟨f121,func121,by kernel_rfl,by kernel_rfl⟩ w04
def v9c:q75T→List AV:=fun x=>[.bp 0 0,.bp 1 0,.bp 2 0,.bp 3 0,.own 4,.i x.1,.i x.2.1]
def waw:q75T→St:=fun x=>let xh:=x.2.2.2.2;let xi:=xh.2.2.2.2;let xj:=xi.2.2.2.2;let xk:=xj.2.2.2.2;let xl:=xk.2.2.2.2;[.box [.i x.2.2.1,.i x.2.2.2.1,.i xh.1,.i xh.2.1,.dead,.dead,.bool xh.2.2.1,.str xh.2.2.2.1],.box [.own 5,.own 6,.own 7,.i xi.1,.i xi.2.1],.box [.own 8,.own 9,.own 4,.i xi.2.2.1,.i xi.2.2.2.1],.box [.i xj.1,.i xj.2.1,.i xj.2.2.1,.i xj.2.2.2.1,.own 10,.own 11,.bool xk.1,.str xk.2.1],.dep tTxn xk.2.2.1 0 [],.arr tVersion xk.2.2.2.1,.dep tTxn xl.1 0 [],.dep tTxn xl.2.1 0 [],.arr tVersion xl.2.2.1,.dep tTxn xl.2.2.2.1 0 [],.arr tRange xl.2.2.2.2.1,.arr tWrite xl.2.2.2.2.2]
def vza:q67T→List AV:=fun x=>[.bp 0 0,.bp 1 0,.bp 2 0,.bp 3 0]
def vzy:q67T→St:=fun x=>let xh:=x.2.2.2.2;let xi:=xh.2.2.2.2;let xj:=xi.2.2.2.2;let xk:=xj.2.2.2.2;[.box [.i x.1,.i x.2.1,.i x.2.2.1,.i x.2.2.2.1,.dead,.dead,.bool xh.1,.str xh.2.1],.box [.own 4,.own 5,.own 6,.i xh.2.2.1,.i xh.2.2.2.1],.box [.own 7,.own 8,.own 9,.i xi.1,.i xi.2.1],.box [.i xi.2.2.1,.i xi.2.2.2.1,.i xj.1,.i xj.2.1,.own 10,.own 11,.bool xj.2.2.1,.str xj.2.2.2.1],.arr tVersion xk.1,.dep tTxn xk.2.1 0 [],.dep tTxn xk.2.2.1 0 [],.arr tVersion xk.2.2.2.1,.dep tTxn xk.2.2.2.2.1 0 [],.dep tTxn xk.2.2.2.2.2.1 0 [],.arr tRange xk.2.2.2.2.2.2.1,.arr tWrite xk.2.2.2.2.2.2.2]
def vm8:q68T→Out×List AV×St:=fun z=>let zh:=z.2.2.2.2;let zi:=zh.2.2.2.2;let zj:=zi.2.2.2.2;(.ret,[.bp 0 0,.bp 1 0,.bp 2 0,.bp 3 0],[.box [.i z.1,.i z.2.1,.i z.2.2.1,.i z.2.2.2.1,.dead,.dead,.bool zh.1,.str zh.2.1],.box [.own 4,.own 5,.own 6,.i zh.2.2.1,.i zh.2.2.2.1],.box [.own 4,.own 5,.own 6,.i zi.1,.i zi.2.1],.box [.i zi.2.2.1,.i zi.2.2.2.1,.i zj.1,.i zj.2.1,.dead,.dead,.bool zj.2.2.1,.str zj.2.2.2.1],.arr tVersion zj.2.2.2.2.1,.dep tTxn zj.2.2.2.2.2.1 0 [],.dep tTxn zj.2.2.2.2.2.2 0 []])
def vzg:q13T→List AV:=fun x=>[.bp 0 0,.bp 1 0,.bp 2 0,.bp 3 0,.bp 4 0]
def vzc:q13T→St:=fun x=>let xh:=x.2.2.2.2;let xi:=xh.2.2.2.2;let xj:=xi.2.2.2.2;let xk:=xj.2.2.2.2;let xl:=xk.2.2.2.2;[.box [.lst tVersion x.1,.lst tTxn x.2.1,.lst tTxn x.2.2.1,.i x.2.2.2.1,.i xh.1],.box [.i xh.2.1,.i xh.2.2.1,.i xh.2.2.2.1,.i xi.1,.lst tRange xi.2.1,.lst tWrite xi.2.2.1,.bool xi.2.2.2.1,.str xj.1],.box [.nilS,.nilS,.nilS,.i xj.2.1,.i xj.2.2.1],.box [.own 5,.own 6,.own 7,.i xj.2.2.2.1,.i xk.1],.box [.i xk.2.1,.i xk.2.2.1,.i xk.2.2.2.1,.i xl.1,.own 8,.own 9,.bool xl.2.1,.str xl.2.2.1],.arr tVersion xl.2.2.2.1,.dep tTxn xl.2.2.2.2.1 0 [],.dep tTxn xl.2.2.2.2.2.1 0 [],.arr tRange xl.2.2.2.2.2.2.1,.arr tWrite xl.2.2.2.2.2.2.2]
def vm2:q68T→Out×List AV×St:=fun z=>let zh:=z.2.2.2.2;let zi:=zh.2.2.2.2;let zj:=zi.2.2.2.2;(.ret,[.dead,.bp 0 0,.bp 1 0,.bp 2 0,.bp 3 0],[.box [.i z.1,.i z.2.1,.i z.2.2.1,.i z.2.2.2.1,.dead,.dead,.bool zh.1,.str zh.2.1],.box [.own 4,.own 5,.own 6,.i zh.2.2.1,.i zh.2.2.2.1],.box [.own 4,.own 5,.own 6,.i zi.1,.i zi.2.1],.box [.i zi.2.2.1,.i zi.2.2.2.1,.i zj.1,.i zj.2.1,.dead,.dead,.bool zj.2.2.1,.str zj.2.2.2.1],.arr tVersion zj.2.2.2.2.1,.dep tTxn zj.2.2.2.2.2.1 0 [],.dep tTxn zj.2.2.2.2.2.2 0 []])
def vov:Nat→Option LoopSpec
 |0=>some (lpS [3,4,5,6,46,47,48] [none,none,none,none,none,none,none,none,none,none,none,none,none,none,none,some tVersion,some tTxn,some tTxn] [.bp 0 0,.bp 1 0,.bp 2 0,.bp 3 0,.own 4,.i,.i] [.box [.i,.i,.i,.i,.dead,.dead,.bool,.str],.box [.own 5,.own 6,.own 7,.i,.i],.box [.own 8,.own 9,.own 4,.i,.i],.box [.i,.i,.i,.i,.own 10,.own 11,.bool,.str],.dep tTxn 0,.arr tVersion,.dep tTxn 0,.dep tTxn 0,.arr tVersion,.dep tTxn 0,.arr tRange,.arr tWrite] vnf (fun p q=>(p.2.2.2.2.2.1,p.2.2.2.2.2.2.1,q.1.1,q.1.2.1,q.1.2.2.1,q.1.2.2.2.1,q.1.2.2.2.2.2.2.1,q.1.2.2.2.2.2.2.2.1,q.2.1.2.2.2.1,q.2.1.2.2.2.2.1,q.2.2.1.2.2.2.1,q.2.2.1.2.2.2.2.1,q.2.2.2.1.1,q.2.2.2.1.2.1,q.2.2.2.1.2.2.1,q.2.2.2.1.2.2.2.1,q.2.2.2.1.2.2.2.2.2.2.1,q.2.2.2.1.2.2.2.2.2.2.2.1,q.2.2.2.2.1,q.2.2.2.2.2.1,q.2.2.2.2.2.2.1,q.2.2.2.2.2.2.2.1,q.2.2.2.2.2.2.2.2.1,q.2.2.2.2.2.2.2.2.2.1,q.2.2.2.2.2.2.2.2.2.2.1,q.2.2.2.2.2.2.2.2.2.2.2.1)) (fun k=>(onE (exZ (.exit 0) v9c waw) k)))
 |5000007=>some (ctS [3,4,5,6] [none,none,none,none,none,none,none,none,some tRange,some tWrite,none,none,some tVersion,some tTxn,some tTxn] [.bp 0 0,.bp 1 0,.bp 2 0,.bp 3 0] [.box [.i,.i,.i,.i,.dead,.dead,.bool,.str],.box [.own 4,.own 5,.own 6,.i,.i],.box [.own 7,.own 8,.own 9,.i,.i],.box [.i,.i,.i,.i,.own 10,.own 11,.bool,.str],.arr tVersion,.dep tTxn 0,.dep tTxn 0,.arr tVersion,.dep tTxn 0,.dep tTxn 0,.arr tRange,.arr tWrite] vgw (fun p q=>(q.1.1,q.1.2.1,q.1.2.2.1,q.1.2.2.2.1,q.1.2.2.2.2.2.2.1,q.1.2.2.2.2.2.2.2.1,q.2.1.2.2.2.1,q.2.1.2.2.2.2.1,q.2.2.1.2.2.2.1,q.2.2.1.2.2.2.2.1,q.2.2.2.1.1,q.2.2.2.1.2.1,q.2.2.2.1.2.2.1,q.2.2.2.1.2.2.2.1,q.2.2.2.1.2.2.2.2.2.2.1,q.2.2.2.1.2.2.2.2.2.2.2.1,q.2.2.2.2.1,q.2.2.2.2.2.1,q.2.2.2.2.2.2.1,q.2.2.2.2.2.2.2.1,q.2.2.2.2.2.2.2.2.1,q.2.2.2.2.2.2.2.2.2.1,q.2.2.2.2.2.2.2.2.2.2.1,q.2.2.2.2.2.2.2.2.2.2.2.1)) (fun k=>(onE vm8 k)))
 |5000005=>some (ctS [2,3,4,5,6] [] [.bp 0 0,.bp 1 0,.bp 2 0,.bp 3 0,.bp 4 0] [.box [.lst tVersion,.lst tTxn,.lst tTxn,.i,.i],.box [.i,.i,.i,.i,.lst tRange,.lst tWrite,.bool,.str],.box [.nilS,.nilS,.nilS,.i,.i],.box [.own 5,.own 6,.own 7,.i,.i],.box [.i,.i,.i,.i,.own 8,.own 9,.bool,.str],.arr tVersion,.dep tTxn 0,.dep tTxn 0,.arr tRange,.arr tWrite] vd7 (fun p q=>(q.1.1,q.1.2.1,q.1.2.2.1,q.1.2.2.2.1,q.1.2.2.2.2.1,q.2.1.1,q.2.1.2.1,q.2.1.2.2.1,q.2.1.2.2.2.1,q.2.1.2.2.2.2.1,q.2.1.2.2.2.2.2.1,q.2.1.2.2.2.2.2.2.1,q.2.1.2.2.2.2.2.2.2.1,q.2.2.1.2.2.2.1,q.2.2.1.2.2.2.2.1,q.2.2.2.1.2.2.2.1,q.2.2.2.1.2.2.2.2.1,q.2.2.2.2.1.1,q.2.2.2.2.1.2.1,q.2.2.2.2.1.2.2.1,q.2.2.2.2.1.2.2.2.1,q.2.2.2.2.1.2.2.2.2.2.2.1,q.2.2.2.2.1.2.2.2.2.2.2.2.1,q.2.2.2.2.2.1,q.2.2.2.2.2.2.1,q.2.2.2.2.2.2.2.1,q.2.2.2.2.2.2.2.2.1,q.2.2.2.2.2.2.2.2.2.1)) (fun k=>(onE vm2 k)))
 |2000011=>some ⟨[0,2,4,6,8,10,12,14,17,18,20,22,24],[],fun _ _ _=>none⟩
 |1000003=>some ⟨[9],[],fun _ _ _=>none⟩
 |_=>none
theorem wq4:LpAt G125 ⟨0,80,vov⟩ f54 0:=
 va2 rfl (fun x=>(n48n_bp0 x).p) v9c waw (exZ (.exit 0) v9c waw) (fun _ _=>⟨rfl,rfl⟩) (fun z=>by(intro h;cases h)) (fun _ _=>rfl) (fun x=>by kernel_rfl)
theorem vz0:CtAt G125 ⟨0,80,vov⟩ f54 5000007:=
 vgt rfl (fun x=>(n48n_jp5000007 x).p) vza vzy vm8 (fun _ _=>⟨rfl,rfl⟩) (fun _ _=>rfl) (fun x=>by kernel_rfl)
theorem vz5:CtAt G125 ⟨0,80,vov⟩ f54 5000005:=
 vgt rfl (fun x=>(n48n_jp5000005 x).p) vzg vzc vm2 (fun _ _=>⟨rfl,rfl⟩) (fun _ _=>rfl) (fun x=>by kernel_rfl)
theorem wz0:vab prog 54 wu7:=
 vaz G125_ok follows (f54.body.getD .skip) func54 (by kernel_rfl) fun p q=>⟨vov,(n48n_p ..).p.map _,by rw [wn5];kernel_rfl,vaa (ids:=[0,5000007,5000005]) (by kernel_rfl) (by kernel_rfl) ⟨wq4,⟨vz0,⟨vz5,trivial⟩⟩⟩⟩
def G126:Glob:=G125.add 54 wu7
theorem G126_ok:GlobOk prog G126:=G125_ok.add ⟨f54,func54,by kernel_rfl,by kernel_rfl⟩ wz0
def wgz:Nat→Option LoopSpec
 |1000010=>some ⟨[1],[],fun _ _ _=>none⟩
 |3000000=>some ⟨[],[none,none,none,none,none,none,none,none,none,none,none,some tRange,some tWrite],fun _ _ _=>none⟩
 |_=>none
theorem wzm:vab prog 26 wvs:=
 vaz G126_ok follows (f26.body.getD .skip) func26 (by kernel_rfl) fun p q=>⟨wgz,(n12n_p ..).p.map _,by rw [wcr];kernel_rfl,vaa (ids:=[]) (by kernel_rfl) (by kernel_rfl) trivial⟩
def G127:Glob:=G126.add 26 wvs
theorem G127_ok:GlobOk prog G127:=G126_ok.add ⟨f26,func26,by kernel_rfl,by kernel_rfl⟩ wzm
def vy5:q74T→List AV:=fun x=>[.dead,.bp 0 0,.i x.1,.i x.2.1,.i x.2.2.1,.i x.2.2.2.1]
def vzi:q74T→St:=fun x=>let xh:=x.2.2.2.2;[.box [.own 1,.own 2,.own 3,.i xh.1,.i xh.2.1,.own 4],.arr tVersion xh.2.2.1,.dep tTxn xh.2.2.2.1 0 [],.dep tTxn xh.2.2.2.2.1 0 [],.dep tTxn xh.2.2.2.2.2 0 []]
def vm6:q43T→Out×List AV×St:=fun z=>let zh:=z.2.2.2.2;(.ret,[.bool z.1,.bp 0 0,.i z.2.1,.i z.2.2.1,.i z.2.2.2.1,.i zh.1],[.box [.own 1,.own 2,.own 3,.i zh.2.1,.i zh.2.2.1,.own 4],.arr tVersion zh.2.2.2.1,.dep tTxn zh.2.2.2.2.1 0 [],.dep tTxn zh.2.2.2.2.2.1 0 [],.dep tTxn zh.2.2.2.2.2.2 0 []])
def vy6:q62T→List AV:=fun x=>[.dead,.own 0,.bp 1 0,.i x.1,.i x.2.1,.own 2,.i x.2.2.1,.i x.2.2.2.1]
def vzr:q62T→St:=fun x=>let xh:=x.2.2.2.2;[.arr (.i) xh.1,.box [.own 3,.own 4,.own 5,.i xh.2.1,.i xh.2.2.1,.own 6],.arr (.i) xh.2.2.2.1,.arr tVersion xh.2.2.2.2.1,.dep tTxn xh.2.2.2.2.2.1 0 [],.dep tTxn xh.2.2.2.2.2.2.1 0 [],.dep tTxn xh.2.2.2.2.2.2.2 0 []]
def vns:q42T→Out×List AV×St:=fun z=>let zh:=z.2.2.2.2;(.ret,[.bool z.1,.dead,.bp 0 0,.i z.2.1,.i z.2.2.1,.dead,.dead,.i z.2.2.2.1],[.box [.own 1,.own 2,.own 3,.i zh.1,.i zh.2.1,.own 4],.arr tVersion zh.2.2.1,.dep tTxn zh.2.2.2.1 0 [],.dep tTxn zh.2.2.2.2.1 0 [],.dep tTxn zh.2.2.2.2.2 0 []])
def v8m:q59T→List AV:=fun x=>[.own 0,.bp 1 0,.i x.1,.i x.2.1,.own 2,.own 3,.i x.2.2.1]
def wa1:q59T→St:=fun x=>let xh:=x.2.2.2.2;[.arr (.i) x.2.2.2.1,.box [.own 4,.own 5,.own 6,.i xh.1,.i xh.2.1,.own 7],.arr (.i) xh.2.2.1,.arr .str xh.2.2.2.1,.arr tVersion xh.2.2.2.2.1,.dep tTxn xh.2.2.2.2.2.1 0 [],.dep tTxn xh.2.2.2.2.2.2.1 0 [],.dep tTxn xh.2.2.2.2.2.2.2 0 []]
def vot:Nat→Option LoopSpec
 |5000023=>some (ctS [2,4,5,7,13,14] [] [.dead,.bp 0 0,.i,.i,.i,.i] [.box [.own 1,.own 2,.own 3,.i,.i,.own 4],.arr tVersion,.dep tTxn 0,.dep tTxn 0,.dep tTxn 0] vd5 (fun p q=>(p.2.2.1,p.2.2.2.1,p.2.2.2.2.1,p.2.2.2.2.2.1,q.1.2.2.2.1,q.1.2.2.2.2.1,q.2.1,q.2.2.1,q.2.2.2.1,q.2.2.2.2.1)) (fun k=>(onE vm6 k)))
 |5000019=>some (ctS [2,3,4,5,7,9,12,13] [] [.dead,.own 0,.bp 1 0,.i,.i,.own 2,.i,.i] [.arr (.i),.box [.own 3,.own 4,.own 5,.i,.i,.own 6],.arr (.i),.arr tVersion,.dep tTxn 0,.dep tTxn 0,.dep tTxn 0] vd0 (fun p q=>(p.2.2.2.1,p.2.2.2.2.1,p.2.2.2.2.2.2.1,p.2.2.2.2.2.2.2.1,q.1,q.2.1.2.2.2.1,q.2.1.2.2.2.2.1,q.2.2.1,q.2.2.2.1,q.2.2.2.2.1,q.2.2.2.2.2.1,q.2.2.2.2.2.2.1)) (fun k=>(onE vns k)))
 |0=>some (lpS [3,4,5,7,9,10,11] [] [.own 0,.bp 1 0,.i,.i,.own 2,.own 3,.i] [.arr (.i),.box [.own 4,.own 5,.own 6,.i,.i,.own 7],.arr (.i),.arr .str,.arr tVersion,.dep tTxn 0,.dep tTxn 0,.dep tTxn 0] vnh (fun p q=>(p.2.2.1,p.2.2.2.1,p.2.2.2.2.2.2.1,q.1,q.2.1.2.2.2.1,q.2.1.2.2.2.2.1,q.2.2.1,q.2.2.2.1,q.2.2.2.2.1,q.2.2.2.2.2.1,q.2.2.2.2.2.2.1,q.2.2.2.2.2.2.2.1)) (fun k=>(onE (exZ (.exit 0) v8m wa1) k)))
 |2000012=>some ⟨[0,2,4,6,8,10,12,14,16,18,20,22,24,26,28,30,32],[],fun _ _ _=>none⟩
 |2000013=>some ⟨[0,2,4,6,8,10,12,14,16,18,21,22,24,26,28],[],fun _ _ _=>none⟩
 |2000017=>some ⟨[0,2,4,6,8,10,12,14,16,18,20,22],[],fun _ _ _=>none⟩
 |2000018=>some ⟨[0,2,4,6,8,10,12,14,16,18,20,22],[],fun _ _ _=>none⟩
 |2000021=>some ⟨[0,2,4,6,8,10,12,14,16,18,20,22,24],[],fun _ _ _=>none⟩
 |2000022=>some ⟨[0,2,4,6,8,10,12,14,16,18,20,22,24],[],fun _ _ _=>none⟩
 |_=>none
theorem vzq:CtAt G127 ⟨0,144,vot⟩ f4 5000023:=
 vgt rfl (fun x=>(n88n_jp5000023 x).p) vy5 vzi vm6 (fun _ _=>⟨rfl,rfl⟩) (fun _ _=>rfl) (fun x=>by kernel_rfl)
theorem vzu:CtAt G127 ⟨0,144,vot⟩ f4 5000019:=
 vgt rfl (fun x=>(n88n_jp5000019 x).p) vy6 vzr vns (fun _ _=>⟨rfl,rfl⟩) (fun _ _=>rfl) (fun x=>by kernel_rfl)
theorem wsc:LpAt G127 ⟨0,144,vot⟩ f4 0:=
 va2 rfl (fun x=>(n88n_bp0 x).p) v8m wa1 (exZ (.exit 0) v8m wa1) (fun _ _=>⟨rfl,rfl⟩) (fun z=>by(intro h;cases h)) (fun _ _=>rfl) (fun x=>by kernel_rfl)
theorem wt3:vab prog 4 wo7:=
 vaz G127_ok follows (f4.body.getD .skip) func4 (by kernel_rfl) fun p q=>⟨vot,(n88n_p _).p.map _,by rw [wje];kernel_rfl,vaa (ids:=[5000023,5000019,0]) (by kernel_rfl) (by kernel_rfl) ⟨vzq,⟨vzu,⟨wsc,trivial⟩⟩⟩⟩
def G128:Glob:=G127.add 4 wo7
theorem w2j:GlobOk prog G128:=G127_ok.add ⟨f4,func4,by kernel_rfl,by kernel_rfl⟩ wt3
end
end Go.VE
