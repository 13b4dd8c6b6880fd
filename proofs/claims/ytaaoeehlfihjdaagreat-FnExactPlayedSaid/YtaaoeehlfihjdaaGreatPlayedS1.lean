/- Each function told by its native program; written by gen.py. -/
import Derived.Test.YtaaoeehlfihjdaaGreatPlayedS0
namespace Go.VE
open Go.Proofs Go.Proofs.Tryz
noncomputable section
set_option linter.unusedVariables false
set_option linter.unusedSimpArgs false
set_option maxRecDepth 100000
def wo7:Nat→Option LoopSpec
 |_=>none
theorem w9w:vad prog 128 w5m:=
 vap G0_ok follows (f128.body.getD .skip) func128 (by kernel_rfl) fun p q=>⟨wo7,(n78n_p ..).p.map _,by rw [wrg];kernel_rfl,vaa (ids:=[]) (by kernel_rfl) (by kernel_rfl) trivial⟩
def G1:Glob:=G0.add 128 w5m
theorem G1_ok:GlobOk prog G1:=G0_ok.add ⟨f128,func128,by kernel_rfl,by kernel_rfl⟩ w9w
def v1p:q34T→List AV:=fun x=>[.lst tVersion x.1,.i x.2.1,.i x.2.2.1,.i x.2.2.2]
def vz9:q34T→St:=fun x=>[]
def v5v:Nat→Option LoopSpec
 |0=>some (lpS [0,1,4,5] [] [.lst tVersion,.i,.i,.i] [] vp2 (fun p q=>(p.1,p.2.1,p.2.2.1,p.2.2.2.1)) (fun k=>(Sum.elim (onE (exZ .ret v1p vz9) k) (onE (exZ (.exit 0) v1p vz9) k))))
 |_=>none
theorem w21:LpAt G1 ⟨0,27,v5v⟩ f58 0:=
 val rfl (fun x=>(n79n_bp0 x).p) v1p vz9 (Sum.elim ((exZ .ret v1p vz9)) ((exZ (.exit 0) v1p vz9))) (fun _ _=>⟨rfl,rfl⟩) (fun z=>by rcases z with z|z<;>(intro h;cases h)) (fun k z=>by rcases z with z|z<;>rfl) (fun x=>by kernel_rfl)
theorem w93:vad prog 58 w31:=
 vap G1_ok follows (f58.body.getD .skip) func58 (by kernel_rfl) fun p q=>⟨v5v,(n79n_p ..).p.map _,by rw [wr6];kernel_rfl,vaa (ids:=[0]) (by kernel_rfl) (by kernel_rfl) ⟨w21,trivial⟩⟩
def G2:Glob:=G1.add 58 w31
theorem G2_ok:GlobOk prog G2:=G1_ok.add ⟨f58,func58,by kernel_rfl,by kernel_rfl⟩ w93
def wn9:Nat→Option LoopSpec
 |_=>none
theorem xcx:vad prog 188 w5b:=
 vap G2_ok follows (f188.body.getD .skip) func188 (by kernel_rfl) fun p q=>⟨wn9,(n73n_p ..).p.map _,by rw [wrd];kernel_rfl,vaa (ids:=[]) (by kernel_rfl) (by kernel_rfl) trivial⟩
def G3:Glob:=G2.add 188 w5b
theorem G3_ok:GlobOk prog G3:=G2_ok.add ⟨f188,func188,by kernel_rfl,by kernel_rfl⟩ xcx
def v3p:q6T→List AV:=fun x=>[.lst tRange x.1,.i x.2.1,.i x.2.2.1,.i x.2.2.2]
def vyy:q6T→St:=fun x=>[]
def v57:Nat→Option LoopSpec
 |0=>some (lpS [0,1,4,5] [] [.lst tRange,.i,.i,.i] [] vo6 (fun p q=>(p.1,p.2.1,p.2.2.1,p.2.2.2.1)) (fun k=>(Sum.elim (onE (exZ .ret v3p vyy) k) (onE (exZ (.exit 0) v3p vyy) k))))
 |_=>none
theorem w0r:LpAt G3 ⟨0,27,v57⟩ f129 0:=
 val rfl (fun x=>(n74n_bp0 x).p) v3p vyy (Sum.elim ((exZ .ret v3p vyy)) ((exZ (.exit 0) v3p vyy))) (fun _ _=>⟨rfl,rfl⟩) (fun z=>by rcases z with z|z<;>(intro h;cases h)) (fun k z=>by rcases z with z|z<;>rfl) (fun x=>by kernel_rfl)
theorem xaw:vad prog 129 w4n:=
 vap G3_ok follows (f129.body.getD .skip) func129 (by kernel_rfl) fun p q=>⟨v57,(n74n_p ..).p.map _,by rw [wv7];kernel_rfl,vaa (ids:=[0]) (by kernel_rfl) (by kernel_rfl) ⟨w0r,trivial⟩⟩
def G4:Glob:=G3.add 129 w4n
theorem G4_ok:GlobOk prog G4:=G3_ok.add ⟨f129,func129,by kernel_rfl,by kernel_rfl⟩ xaw
def wpq:Nat→Option LoopSpec
 |_=>none
theorem xbc:vad prog 189 w6a:=
 vap G4_ok follows (f189.body.getD .skip) func189 (by kernel_rfl) fun p q=>⟨wpq,(n80n_p ..).p.map _,by rw [wu7];kernel_rfl,vaa (ids:=[]) (by kernel_rfl) (by kernel_rfl) trivial⟩
def G5:Glob:=G4.add 189 w6a
theorem G5_ok:GlobOk prog G5:=G4_ok.add ⟨f189,func189,by kernel_rfl,by kernel_rfl⟩ xbc
def vzi:q42T→List AV:=fun x=>[.lst tWrite x.1,.i x.2.1,.i x.2.2.1,.i x.2.2.2]
def v0z:q42T→St:=fun x=>[]
def v8m:Nat→Option LoopSpec
 |0=>some (lpS [0,1,4,5] [] [.lst tWrite,.i,.i,.i] [] vpm (fun p q=>(p.1,p.2.1,p.2.2.1,p.2.2.2.1)) (fun k=>(Sum.elim (onE (exZ .ret vzi v0z) k) (onE (exZ (.exit 0) vzi v0z) k))))
 |_=>none
theorem w0l:LpAt G5 ⟨0,27,v8m⟩ f130 0:=
 val rfl (fun x=>(n81n_bp0 x).p) vzi v0z (Sum.elim ((exZ .ret vzi v0z)) ((exZ (.exit 0) vzi v0z))) (fun _ _=>⟨rfl,rfl⟩) (fun z=>by rcases z with z|z<;>(intro h;cases h)) (fun k z=>by rcases z with z|z<;>rfl) (fun x=>by kernel_rfl)
theorem xao:vad prog 130 w5p:=
 vap G5_ok follows (f130.body.getD .skip) func130 (by kernel_rfl) fun p q=>⟨v8m,(n81n_p ..).p.map _,by rw [wy0];kernel_rfl,vaa (ids:=[0]) (by kernel_rfl) (by kernel_rfl) ⟨w0l,trivial⟩⟩
def G6:Glob:=G5.add 130 w5p
theorem G6_ok:GlobOk prog G6:=G5_ok.add ⟨f130,func130,by kernel_rfl,by kernel_rfl⟩ xao
def wnu:Nat→Option LoopSpec
 |_=>none
theorem xcq:vad prog 60 w4d:=
 vap G6_ok follows (f60.body.getD .skip) func60 (by kernel_rfl) fun p q=>⟨wnu,(n76n_p ..).p.map _,by rw [wq3];kernel_rfl,vaa (ids:=[]) (by kernel_rfl) (by kernel_rfl) trivial⟩
def G7:Glob:=G6.add 60 w4d
theorem G7_ok:GlobOk prog G7:=G6_ok.add ⟨f60,func60,by kernel_rfl,by kernel_rfl⟩ xcq
def v39:q17T→List AV:=fun x=>[.lst tTxn x.1,.i x.2.1,.i x.2.2.1,.i x.2.2.2]
def v09:q17T→St:=fun x=>[]
def v8f:Nat→Option LoopSpec
 |0=>some (lpS [0,1,4,5] [] [.lst tTxn,.i,.i,.i] [] voh (fun p q=>(p.1,p.2.1,p.2.2.1,p.2.2.2.1)) (fun k=>(Sum.elim (onE (exZ .ret v39 v09) k) (onE (exZ (.exit 0) v39 v09) k))))
 |_=>none
theorem w1m:LpAt G7 ⟨0,27,v8f⟩ f59 0:=
 val rfl (fun x=>(n77n_bp0 x).p) v39 v09 (Sum.elim ((exZ .ret v39 v09)) ((exZ (.exit 0) v39 v09))) (fun _ _=>⟨rfl,rfl⟩) (fun z=>by rcases z with z|z<;>(intro h;cases h)) (fun k z=>by rcases z with z|z<;>rfl) (fun x=>by kernel_rfl)
theorem xcw:vad prog 59 w5j:=
 vap G7_ok follows (f59.body.getD .skip) func59 (by kernel_rfl) fun p q=>⟨v8f,(n77n_p ..).p.map _,by rw [wwh];kernel_rfl,vaa (ids:=[0]) (by kernel_rfl) (by kernel_rfl) ⟨w1m,trivial⟩⟩
def G8:Glob:=G7.add 59 w5j
theorem G8_ok:GlobOk prog G8:=G7_ok.add ⟨f59,func59,by kernel_rfl,by kernel_rfl⟩ xcw
def woc:Nat→Option LoopSpec
 |_=>none
theorem xcm:vad prog 8 w3u:=
 vap G8_ok follows (f8.body.getD .skip) func8 (by kernel_rfl) fun p q=>⟨woc,(n72n_p ..).p.map _,by rw [ww5];kernel_rfl,vaa (ids:=[]) (by kernel_rfl) (by kernel_rfl) trivial⟩
def G9:Glob:=G8.add 8 w3u
theorem G9_ok:GlobOk prog G9:=G8_ok.add ⟨f8,func8,by kernel_rfl,by kernel_rfl⟩ xcm
def wol:Nat→Option LoopSpec
 |_=>none
theorem w9r:vad prog 9 w4p:=
 vap G9_ok follows (f9.body.getD .skip) func9 (by kernel_rfl) fun p q=>⟨wol,(n75n_p ..).p.map _,by rw [ww2];kernel_rfl,vaa (ids:=[]) (by kernel_rfl) (by kernel_rfl) trivial⟩
def G10:Glob:=G9.add 9 w4p
theorem G10_ok:GlobOk prog G10:=G9_ok.add ⟨f9,func9,by kernel_rfl,by kernel_rfl⟩ w9r
def wpp:Nat→Option LoopSpec
 |_=>none
theorem xca:vad prog 135 w35:=
 vap G10_ok follows (f135.body.getD .skip) func135 (by kernel_rfl) fun p q=>⟨wpp,(n88n_p _).p.map _,by rw [wvz];kernel_rfl,vaa (ids:=[]) (by kernel_rfl) (by kernel_rfl) trivial⟩
def G11:Glob:=G10.add 135 w35
theorem G11_ok:GlobOk prog G11:=G10_ok.add ⟨f135,func135,by kernel_rfl,by kernel_rfl⟩ xca
def wge:q30T→List AV:=fun x=>[.lst tVersion x.1,.own 0,.i x.2.1]
def wfm:q30T→St:=fun x=>[.arr tVersion x.2.2]
def v6x:Nat→Option LoopSpec
 |0=>some (lpS [0,3,4] [] [.lst tVersion,.own 0,.i] [.arr tVersion] vp4 (fun p q=>(p.1,p.2.2.1,q.1)) (fun k=>(onE (exZ (.exit 0) wge wfm) k)))
 |_=>none
theorem w0n:LpAt G11 ⟨0,23,v6x⟩ f64 0:=
 val rfl (fun x=>(n89n_bp0 x).p) wge wfm (exZ (.exit 0) wge wfm) (fun _ _=>⟨rfl,rfl⟩) (fun z=>by(intro h;cases h)) (fun _ _=>rfl) (fun x=>by kernel_rfl)
theorem xac:vad prog 64 w55:=
 vap G11_ok follows (f64.body.getD .skip) func64 (by kernel_rfl) fun p q=>⟨v6x,(n89n_p _).p.map _,by rw [wrw];kernel_rfl,vaa (ids:=[0]) (by kernel_rfl) (by kernel_rfl) ⟨w0n,trivial⟩⟩
def G12:Glob:=G11.add 64 w55
theorem G12_ok:GlobOk prog G12:=G11_ok.add ⟨f64,func64,by kernel_rfl,by kernel_rfl⟩ xac
def wpt:Nat→Option LoopSpec
 |_=>none
theorem xae:vad prog 190 w4g:=
 vap G12_ok follows (f190.body.getD .skip) func190 (by kernel_rfl) fun p q=>⟨wpt,(n83n_p _).p.map _,by rw [wq4];kernel_rfl,vaa (ids:=[]) (by kernel_rfl) (by kernel_rfl) trivial⟩
def G13:Glob:=G12.add 190 w4g
theorem G13_ok:GlobOk prog G13:=G12_ok.add ⟨f190,func190,by kernel_rfl,by kernel_rfl⟩ xae
def wfb:q5T→List AV:=fun x=>[.lst tRange x.1,.own 0,.i x.2.1]
def whc:q5T→St:=fun x=>[.arr tRange x.2.2]
def v5p:Nat→Option LoopSpec
 |0=>some (lpS [0,3,4] [] [.lst tRange,.own 0,.i] [.arr tRange] vod (fun p q=>(p.1,p.2.2.1,q.1)) (fun k=>(onE (exZ (.exit 0) wfb whc) k)))
 |_=>none
theorem w17:LpAt G13 ⟨0,23,v5p⟩ f136 0:=
 val rfl (fun x=>(n84n_bp0 x).p) wfb whc (exZ (.exit 0) wfb whc) (fun _ _=>⟨rfl,rfl⟩) (fun z=>by(intro h;cases h)) (fun _ _=>rfl) (fun x=>by kernel_rfl)
theorem xc3:vad prog 136 w3p:=
 vap G13_ok follows (f136.body.getD .skip) func136 (by kernel_rfl) fun p q=>⟨v5p,(n84n_p _).p.map _,by rw [wxr];kernel_rfl,vaa (ids:=[0]) (by kernel_rfl) (by kernel_rfl) ⟨w17,trivial⟩⟩
def G14:Glob:=G13.add 136 w3p
theorem G14_ok:GlobOk prog G14:=G13_ok.add ⟨f136,func136,by kernel_rfl,by kernel_rfl⟩ xc3
def wpw:Nat→Option LoopSpec
 |_=>none
theorem xbg:vad prog 191 w4x:=
 vap G14_ok follows (f191.body.getD .skip) func191 (by kernel_rfl) fun p q=>⟨wpw,(n90n_p _).p.map _,by rw [wqi];kernel_rfl,vaa (ids:=[]) (by kernel_rfl) (by kernel_rfl) trivial⟩
def G15:Glob:=G14.add 191 w4x
theorem G15_ok:GlobOk prog G15:=G14_ok.add ⟨f191,func191,by kernel_rfl,by kernel_rfl⟩ xbg
def wgd:q39T→List AV:=fun x=>[.lst tWrite x.1,.own 0,.i x.2.1]
def whg:q39T→St:=fun x=>[.arr tWrite x.2.2]
def v7h:Nat→Option LoopSpec
 |0=>some (lpS [0,3,4] [] [.lst tWrite,.own 0,.i] [.arr tWrite] vpa (fun p q=>(p.1,p.2.2.1,q.1)) (fun k=>(onE (exZ (.exit 0) wgd whg) k)))
 |_=>none
theorem wzx:LpAt G15 ⟨0,23,v7h⟩ f137 0:=
 val rfl (fun x=>(n91n_bp0 x).p) wgd whg (exZ (.exit 0) wgd whg) (fun _ _=>⟨rfl,rfl⟩) (fun z=>by(intro h;cases h)) (fun _ _=>rfl) (fun x=>by kernel_rfl)
theorem xaa:vad prog 137 w43:=
 vap G15_ok follows (f137.body.getD .skip) func137 (by kernel_rfl) fun p q=>⟨v7h,(n91n_p _).p.map _,by rw [wx6];kernel_rfl,vaa (ids:=[0]) (by kernel_rfl) (by kernel_rfl) ⟨wzx,trivial⟩⟩
def G16:Glob:=G15.add 137 w43
theorem G16_ok:GlobOk prog G16:=G15_ok.add ⟨f137,func137,by kernel_rfl,by kernel_rfl⟩ xaa
def wph:Nat→Option LoopSpec
 |_=>none
theorem w9l:vad prog 66 w5k:=
 vap G16_ok follows (f66.body.getD .skip) func66 (by kernel_rfl) fun p q=>⟨wph,(n86n_p _).p.map _,by rw [wxe];kernel_rfl,vaa (ids:=[]) (by kernel_rfl) (by kernel_rfl) trivial⟩
def G17:Glob:=G16.add 66 w5k
theorem G17_ok:GlobOk prog G17:=G16_ok.add ⟨f66,func66,by kernel_rfl,by kernel_rfl⟩ w9l
def wi2:q9T→List AV:=fun x=>[.lst tTxn x.1,.own 0,.i x.2.1]
def wh4:q9T→St:=fun x=>[.dep tTxn x.2.2 0 []]
def v62:Nat→Option LoopSpec
 |0=>some (lpS [0,3,4] [] [.lst tTxn,.own 0,.i] [.dep tTxn 0] vpd (fun p q=>(p.1,p.2.2.1,q.1)) (fun k=>(onE (exZ (.exit 0) wi2 wh4) k)))
 |_=>none
theorem w0u:LpAt G17 ⟨0,23,v62⟩ f65 0:=
 val rfl (fun x=>(n87n_bp0 x).p) wi2 wh4 (exZ (.exit 0) wi2 wh4) (fun _ _=>⟨rfl,rfl⟩) (fun z=>by(intro h;cases h)) (fun _ _=>rfl) (fun x=>by kernel_rfl)
theorem xal:vad prog 65 w4o:=
 vap G17_ok follows (f65.body.getD .skip) func65 (by kernel_rfl) fun p q=>⟨v62,(n87n_p _).p.map _,by rw [wrk];kernel_rfl,vaa (ids:=[0]) (by kernel_rfl) (by kernel_rfl) ⟨w0u,trivial⟩⟩
def G18:Glob:=G17.add 65 w4o
theorem G18_ok:GlobOk prog G18:=G17_ok.add ⟨f65,func65,by kernel_rfl,by kernel_rfl⟩ xal
def wpr:Nat→Option LoopSpec
 |_=>none
theorem w9m:vad prog 11 w45:=
 vap G18_ok follows (f11.body.getD .skip) func11 (by kernel_rfl) fun p q=>⟨wpr,(n82n_p _).p.map _,by rw [wtt];kernel_rfl,vaa (ids:=[]) (by kernel_rfl) (by kernel_rfl) trivial⟩
def G19:Glob:=G18.add 11 w45
theorem G19_ok:GlobOk prog G19:=G18_ok.add ⟨f11,func11,by kernel_rfl,by kernel_rfl⟩ w9m
def wp1:Nat→Option LoopSpec
 |_=>none
theorem xaj:vad prog 12 w44:=
 vap G19_ok follows (f12.body.getD .skip) func12 (by kernel_rfl) fun p q=>⟨wp1,(n85n_p _).p.map _,by rw [wtv];kernel_rfl,vaa (ids:=[]) (by kernel_rfl) (by kernel_rfl) trivial⟩
def G20:Glob:=G19.add 12 w44
theorem G20_ok:GlobOk prog G20:=G19_ok.add ⟨f12,func12,by kernel_rfl,by kernel_rfl⟩ xaj
def we9:Nat→Option LoopSpec
 |_=>none
theorem w6n:vad prog 118 wx2:=
 vap G20_ok.shallow follows (f118.body.getD .skip) func118 (by kernel_rfl) fun p q=>⟨we9,(n129n_p ..).p.map _,by rw [wgw];kernel_rfl,vaa (ids:=[]) (by kernel_rfl) (by kernel_rfl) trivial⟩
def G21:Glob:=G20.add 118 wx2
theorem G21_ok:GlobOk prog G21:=G20_ok.add ⟨f118,func118,by kernel_rfl,by kernel_rfl⟩ w6n
def vtp:(ByteArray×Bool×Int)→List AV:=fun x=>[.str x.1,.bool x.2.1,.i x.2.2]
def vtn:(ByteArray×Bool×Int)→St:=fun x=>[]
def v2j:Nat→Option LoopSpec
 |0=>some (lpS [0,2,3] [] [.str,.bool,.i] [] vjw (fun p q=>(p.1,p.2.1,p.2.2.1)) (fun k=>(Sum.elim (onE (exZ .ret vtp vtn) k) (onE (exZ (.exit 0) vtp vtn) k))))
 |_=>none
theorem wu0:LpAt G21.shallow ⟨0,23,v2j⟩ f132 0:=
 val rfl (fun x=>(n112n_bp0 x).p) vtp vtn (Sum.elim ((exZ .ret vtp vtn)) ((exZ (.exit 0) vtp vtn))) (fun _ _=>⟨rfl,rfl⟩) (fun z=>by rcases z with z|z<;>(intro h;cases h)) (fun k z=>by rcases z with z|z<;>rfl) (fun x=>by kernel_rfl)
theorem w6r:vad prog 132 wq5:=
 vap G21_ok.shallow follows (f132.body.getD .skip) func132 (by kernel_rfl) fun p q=>⟨v2j,(n112n_p _).p.map _,by rw [we1];kernel_rfl,vaa (ids:=[0]) (by kernel_rfl) (by kernel_rfl) ⟨wu0,trivial⟩⟩
def G22:Glob:=G21.add 132 wq5
theorem G22_ok:GlobOk prog G22:=G21_ok.add ⟨f132,func132,by kernel_rfl,by kernel_rfl⟩ w6r
def veb:q25T→List AV:=fun x=>[.lst tVersion x.1,.bool x.2.1,.i x.2.2.1,.bp 0 0]
def vdz:q25T→St:=fun x=>[.box [.str x.2.2.2.1,.str x.2.2.2.2.1,.bool x.2.2.2.2.2.1,.i x.2.2.2.2.2.2]]
def vu8:(VL×Bool×Int)→List AV:=fun x=>[.lst tVersion x.1,.bool x.2.1,.i x.2.2]
def vue:(VL×Bool×Int)→St:=fun x=>[]
def vsj:Nat→Option LoopSpec
 |5000007=>some (ctS [0,2,3,4] [] [.lst tVersion,.bool,.i,.bp 0 0] [.box [.str,.str,.bool,.i]] vc2 (fun p q=>(p.1,p.2.1,p.2.2.1,q.1.1,q.1.2.1,q.1.2.2.1,q.1.2.2.2.1)) (fun k=>(Sum.elim (onE (exZ .ret veb vdz) k) (onE (exZ .norm veb vdz) k))))
 |0=>some (lpS [0,2,3] [] [.lst tVersion,.bool,.i] [] vjy (fun p q=>(p.1,p.2.1,p.2.2.1)) (fun k=>(Sum.elim (onE (exZ .ret vu8 vue) k) (onE (exZ (.exit 0) vu8 vue) k))))
 |2000007=>some ⟨[0,2,4,6,8,10,12,14,16,18,20,22,24,26,28,30,32,34,36,38,40,42,44,46,48,50,52,54,56,58,60,62,64,66,68],[],fun _ _ _=>none⟩
 |_=>none
theorem v2a:CtAt G22.shallow ⟨0,78,vsj⟩ f117 5000007:=
 vby rfl (fun x=>(n126n_jp5000007 x).p) veb vdz (Sum.elim ((exZ .ret veb vdz)) ((exZ .norm veb vdz))) (fun _ _=>⟨rfl,rfl⟩) (fun k z=>by rcases z with z|z<;>rfl) (fun x=>by kernel_rfl)
theorem wyh:LpAt G22.shallow ⟨0,78,vsj⟩ f117 0:=
 val rfl (fun x=>(n126n_bp0 x).p) vu8 vue (Sum.elim ((exZ .ret vu8 vue)) ((exZ (.exit 0) vu8 vue))) (fun _ _=>⟨rfl,rfl⟩) (fun z=>by rcases z with z|z<;>(intro h;cases h)) (fun k z=>by rcases z with z|z<;>rfl) (fun x=>by kernel_rfl)
theorem w77:vad prog 117 wsi:=
 vap G22_ok.shallow follows (f117.body.getD .skip) func117 (by kernel_rfl) fun p q=>⟨vsj,(n126n_p _).p.map _,by rw [wit];kernel_rfl,vaa (ids:=[5000007,0]) (by kernel_rfl) (by kernel_rfl) ⟨v2a,⟨wyh,trivial⟩⟩⟩
def G23:Glob:=G22.add 117 wsi
theorem G23_ok:GlobOk prog G23:=G22_ok.add ⟨f117,func117,by kernel_rfl,by kernel_rfl⟩ w77
def wha:Nat→Option LoopSpec
 |_=>none
theorem w86:vad prog 216 wx4:=
 vap G23_ok.shallow follows (f216.body.getD .skip) func216 (by kernel_rfl) fun p q=>⟨wha,(n127n_p _).p.map _,by rw [wfc];kernel_rfl,vaa (ids:=[]) (by kernel_rfl) (by kernel_rfl) trivial⟩
def G24:Glob:=G23.add 216 wx4
theorem G24_ok:GlobOk prog G24:=G23_ok.add ⟨f216,func216,by kernel_rfl,by kernel_rfl⟩ w86
def vu2:(WL×Bool×Int)→List AV:=fun x=>[.lst tWrite x.1,.bool x.2.1,.i x.2.2]
def vu5:(WL×Bool×Int)→St:=fun x=>[]
def v0y:Nat→Option LoopSpec
 |0=>some (lpS [0,2,3] [] [.lst tWrite,.bool,.i] [] vjs (fun p q=>(p.1,p.2.1,p.2.2.1)) (fun k=>(Sum.elim (onE (exZ .ret vu2 vu5) k) (onE (exZ (.exit 0) vu2 vu5) k))))
 |2000004=>some ⟨[0,2,4,6,9,10,12,14,16,18,20,22,24,26,28,30,32,34,36,38,40,42,44,46],[],fun _ _ _=>none⟩
 |_=>none
theorem wuc:LpAt G24.shallow ⟨0,37,v0y⟩ f180 0:=
 val rfl (fun x=>(n128n_bp0 x).p) vu2 vu5 (Sum.elim ((exZ .ret vu2 vu5)) ((exZ (.exit 0) vu2 vu5))) (fun _ _=>⟨rfl,rfl⟩) (fun z=>by rcases z with z|z<;>(intro h;cases h)) (fun k z=>by rcases z with z|z<;>rfl) (fun x=>by kernel_rfl)
theorem w7x:vad prog 180 wte:=
 vap G24_ok.shallow follows (f180.body.getD .skip) func180 (by kernel_rfl) fun p q=>⟨v0y,(n128n_p _).p.map _,by rw [wfn];kernel_rfl,vaa (ids:=[0]) (by kernel_rfl) (by kernel_rfl) ⟨wuc,trivial⟩⟩
def G25:Glob:=G24.add 180 wte
theorem G25_ok:GlobOk prog G25:=G24_ok.add ⟨f180,func180,by kernel_rfl,by kernel_rfl⟩ w7x
def wjf:Nat→Option LoopSpec
 |_=>none
theorem w7z:vad prog 181 wwp:=
 vap G25_ok.shallow follows (f181.body.getD .skip) func181 (by kernel_rfl) fun p q=>⟨wjf,(n118n_p _).p.map _,by rw [wgg];kernel_rfl,vaa (ids:=[]) (by kernel_rfl) (by kernel_rfl) trivial⟩
def G26:Glob:=G25.add 181 wwp
theorem G26_ok:GlobOk prog G26:=G25_ok.add ⟨f181,func181,by kernel_rfl,by kernel_rfl⟩ w7z
def vh9:q62T→List AV:=fun x=>[.bp 0 0,.bool x.1]
def vil:q62T→St:=fun x=>let xh:=x.2.2.2.2;[.box [.i x.2.1,.i x.2.2.1,.i x.2.2.2.1,.i xh.1,.lst tRange xh.2.1,.lst tWrite xh.2.2.1,.bool xh.2.2.2.1,.str xh.2.2.2.2]]
def vit:q62T→List AV:=fun x=>[.bp 0 0,.bool x.1]
def vh8:q62T→St:=fun x=>let xh:=x.2.2.2.2;[.box [.i x.2.1,.i x.2.2.1,.i x.2.2.2.1,.i xh.1,.lst tRange xh.2.1,.lst tWrite xh.2.2.1,.bool xh.2.2.2.1,.str xh.2.2.2.2]]
def vvd:q65T→List AV:=fun x=>[.bp 0 0,.bool x.1,.i x.2.1]
def vuo:q65T→St:=fun x=>let xh:=x.2.2.2.2;[.box [.i x.2.2.1,.i x.2.2.2.1,.i xh.1,.i xh.2.1,.lst tRange xh.2.2.1,.lst tWrite xh.2.2.2.1,.bool xh.2.2.2.2.1,.str xh.2.2.2.2.2]]
def vib:q62T→List AV:=fun x=>[.bp 0 0,.bool x.1]
def viq:q62T→St:=fun x=>let xh:=x.2.2.2.2;[.box [.i x.2.1,.i x.2.2.1,.i x.2.2.2.1,.i xh.1,.lst tRange xh.2.1,.lst tWrite xh.2.2.1,.bool xh.2.2.2.1,.str xh.2.2.2.2]]
def vik:Nat→Option LoopSpec
 |5000012=>some (ctS [1,2] [] [.bp 0 0,.bool] [.box [.i,.i,.i,.i,.lst tRange,.lst tWrite,.bool,.str]] vb3 (fun p q=>(p.2.1,q.1.1,q.1.2.1,q.1.2.2.1,q.1.2.2.2.1,q.1.2.2.2.2.1,q.1.2.2.2.2.2.1,q.1.2.2.2.2.2.2.1,q.1.2.2.2.2.2.2.2.1)) (fun k=>(onE (exZ .ret vh9 vil) k)))
 |5000010=>some (ctS [1,2] [] [.bp 0 0,.bool] [.box [.i,.i,.i,.i,.lst tRange,.lst tWrite,.bool,.str]] vb6 (fun p q=>(p.2.1,q.1.1,q.1.2.1,q.1.2.2.1,q.1.2.2.2.1,q.1.2.2.2.2.1,q.1.2.2.2.2.2.1,q.1.2.2.2.2.2.2.1,q.1.2.2.2.2.2.2.2.1)) (fun k=>(onE (exZ .ret vit vh8) k)))
 |0=>some (lpS [1,2,3] [] [.bp 0 0,.bool,.i] [.box [.i,.i,.i,.i,.lst tRange,.lst tWrite,.bool,.str]] vj7 (fun p q=>(p.2.1,p.2.2.1,q.1.1,q.1.2.1,q.1.2.2.1,q.1.2.2.2.1,q.1.2.2.2.2.1,q.1.2.2.2.2.2.1,q.1.2.2.2.2.2.2.1,q.1.2.2.2.2.2.2.2.1)) (fun k=>(Sum.elim (onE (exZ .ret vvd vuo) k) (onE (exZ (.exit 0) vvd vuo) k))))
 |5000003=>some (ctS [1,2] [] [.bp 0 0,.bool] [.box [.i,.i,.i,.i,.lst tRange,.lst tWrite,.bool,.str]] vdv (fun p q=>(p.2.1,q.1.1,q.1.2.1,q.1.2.2.1,q.1.2.2.2.1,q.1.2.2.2.2.1,q.1.2.2.2.2.2.1,q.1.2.2.2.2.2.2.1,q.1.2.2.2.2.2.2.2.1)) (fun k=>(onE (exZ .ret vib viq) k)))
 |_=>none
theorem v08:CtAt G26.shallow ⟨0,95,vik⟩ f119 5000012:=
 vby rfl (fun x=>(n125n_jp5000012 x).p) vh9 vil (exZ .ret vh9 vil) (fun _ _=>⟨rfl,rfl⟩) (fun _ _=>rfl) (fun x=>by kernel_rfl)
theorem vz4:CtAt G26.shallow ⟨0,95,vik⟩ f119 5000010:=
 vby rfl (fun x=>(n125n_jp5000010 x).p) vit vh8 (exZ .ret vit vh8) (fun _ _=>⟨rfl,rfl⟩) (fun _ _=>rfl) (fun x=>by kernel_rfl)
theorem wwn:LpAt G26.shallow ⟨0,95,vik⟩ f119 0:=
 val rfl (fun x=>(n125n_bp0 x).p) vvd vuo (Sum.elim ((exZ .ret vvd vuo)) ((exZ (.exit 0) vvd vuo))) (fun _ _=>⟨rfl,rfl⟩) (fun z=>by rcases z with z|z<;>(intro h;cases h)) (fun k z=>by rcases z with z|z<;>rfl) (fun x=>by kernel_rfl)
theorem v2l:CtAt G26.shallow ⟨0,95,vik⟩ f119 5000003:=
 vby rfl (fun x=>(n125n_jp5000003 x).p) vib viq (exZ .ret vib viq) (fun _ _=>⟨rfl,rfl⟩) (fun _ _=>rfl) (fun x=>by kernel_rfl)
theorem w6o:vad prog 119 wrf:=
 vap G26_ok.shallow follows (f119.body.getD .skip) func119 (by kernel_rfl) fun p q=>⟨vik,(n125n_p _).p.map _,by rw [wg5];kernel_rfl,vaa (ids:=[5000012,5000010,0,5000003]) (by kernel_rfl) (by kernel_rfl) ⟨v08,⟨vz4,⟨wwn,⟨v2l,trivial⟩⟩⟩⟩⟩
def G27:Glob:=G26.add 119 wrf
theorem G27_ok:GlobOk prog G27:=G26_ok.add ⟨f119,func119,by kernel_rfl,by kernel_rfl⟩ w6o
def vve:q58T→List AV:=fun x=>[.bp 0 0,.bool x.1,.i x.2.1]
def vus:q58T→St:=fun x=>[.box [.lst tVersion x.2.2.1,.lst tTxn x.2.2.2.1,.lst tTxn x.2.2.2.2.1,.i x.2.2.2.2.2.1,.i x.2.2.2.2.2.2]]
def vty:q57T→List AV:=fun x=>[.bp 0 0,.bool x.1,.own 1,.i x.2.1]
def vto:q57T→St:=fun x=>[.box [.lst tVersion x.2.2.1,.lst tTxn x.2.2.2.1,.lst tTxn x.2.2.2.2.1,.i x.2.2.2.2.2.1,.i x.2.2.2.2.2.2.1],.arr (.i) x.2.2.2.2.2.2.2]
def vu6:q57T→List AV:=fun x=>[.bp 0 0,.bool x.1,.own 1,.i x.2.1]
def vth:q57T→St:=fun x=>[.box [.lst tVersion x.2.2.1,.lst tTxn x.2.2.2.1,.lst tTxn x.2.2.2.2.1,.i x.2.2.2.2.2.1,.i x.2.2.2.2.2.2.1],.arr (.i) x.2.2.2.2.2.2.2]
def vtz:q59T→List AV:=fun x=>[.bp 0 0,.bool x.1,.own 1,.i x.2.1,.i x.2.2.1]
def vuk:q59T→St:=fun x=>let xh:=x.2.2.2.2;[.box [.lst tVersion x.2.2.2.1,.lst tTxn xh.1,.lst tTxn xh.2.1,.i xh.2.2.1,.i xh.2.2.2.1],.arr (.i) xh.2.2.2.2]
def vum:q57T→List AV:=fun x=>[.bp 0 0,.bool x.1,.own 1,.i x.2.1]
def vuf:q57T→St:=fun x=>[.box [.lst tVersion x.2.2.1,.lst tTxn x.2.2.2.1,.lst tTxn x.2.2.2.2.1,.i x.2.2.2.2.2.1,.i x.2.2.2.2.2.2.1],.arr (.i) x.2.2.2.2.2.2.2]
def vh2:q48T→List AV:=fun x=>[.bp 0 0,.bool x.1]
def vhz:q48T→St:=fun x=>[.box [.lst tVersion x.2.1,.lst tTxn x.2.2.1,.lst tTxn x.2.2.2.1,.i x.2.2.2.2.1,.i x.2.2.2.2.2]]
def ve0:Nat→Option LoopSpec
 |0=>some (lpS [1,2,3] [] [.bp 0 0,.bool,.i] [.box [.lst tVersion,.lst tTxn,.lst tTxn,.i,.i]] vj2 (fun p q=>(p.2.1,p.2.2.1,q.1.1,q.1.2.1,q.1.2.2.1,q.1.2.2.2.1,q.1.2.2.2.2.1)) (fun k=>(Sum.elim (onE (exZ .ret vve vus) k) (onE (exZ (.exit 0) vve vus) k))))
 |2=>some (lpS [1,2,4,5] [] [.bp 0 0,.bool,.own 1,.i] [.box [.lst tVersion,.lst tTxn,.lst tTxn,.i,.i],.arr (.i)] vi4 (fun p q=>(p.2.1,p.2.2.2.1,q.1.1,q.1.2.1,q.1.2.2.1,q.1.2.2.2.1,q.1.2.2.2.2.1,q.2.1)) (fun k=>(Sum.elim (onE (exZ .ret vty vto) k) (onE (exZ (.exit 2) vty vto) k))))
 |4=>some (lpS [1,2,4,7] [] [.bp 0 0,.bool,.own 1,.i] [.box [.lst tVersion,.lst tTxn,.lst tTxn,.i,.i],.arr (.i)] vj3 (fun p q=>(p.2.1,p.2.2.2.1,q.1.1,q.1.2.1,q.1.2.2.1,q.1.2.2.2.1,q.1.2.2.2.2.1,q.2.1)) (fun k=>(Sum.elim (onE (exZ .ret vu6 vth) k) (onE (exZ (.exit 4) vu6 vth) k))))
 |8=>some (lpS [1,2,4,9,10] [] [.bp 0 0,.bool,.own 1,.i,.i] [.box [.lst tVersion,.lst tTxn,.lst tTxn,.i,.i],.arr (.i)] vm2 (fun p q=>(p.2.1,p.2.2.2.1,p.2.2.2.2.1,q.1.1,q.1.2.1,q.1.2.2.1,q.1.2.2.2.1,q.1.2.2.2.2.1,q.2.1)) (fun k=>(Sum.elim (onE (exZ .ret vtz vuk) k) (onE (exZ (.exit 8) vtz vuk) k))))
 |6=>some (lpS [1,2,4,9] [] [.bp 0 0,.bool,.own 1,.i] [.box [.lst tVersion,.lst tTxn,.lst tTxn,.i,.i],.arr (.i)] vj1 (fun p q=>(p.2.1,p.2.2.2.1,q.1.1,q.1.2.1,q.1.2.2.1,q.1.2.2.2.1,q.1.2.2.2.2.1,q.2.1)) (fun k=>(Sum.elim (onE (exZ (.exit 6) vum vuf) k) (onE (exZ .ret vum vuf) k))))
 |5000003=>some (ctS [1,2] [] [.bp 0 0,.bool] [.box [.lst tVersion,.lst tTxn,.lst tTxn,.i,.i]] vds (fun p q=>(p.2.1,q.1.1,q.1.2.1,q.1.2.2.1,q.1.2.2.2.1,q.1.2.2.2.2.1)) (fun k=>(onE (exZ .ret vh2 vhz) k)))
 |2000006=>some ⟨[0,2,4,6,8,10,12,14,16],[],fun _ _ _=>none⟩
 |2000013=>some ⟨[0,3,4,6,8,10,12,14,16,18,20,22,24,26,28,30,32,34,36,38,40,42,44,46,48,50,52,54,56,58,60],[],fun _ _ _=>none⟩
 |2000020=>some ⟨[0,3,4,6,8,10,12,14,16,18,20,22,24,26,28,30,32,34,36,38,40,42,44,46,48,50,52,54,56,58,60],[],fun _ _ _=>none⟩
 |2000029=>some ⟨[0,2,4,6,8,10,12,14,16],[],fun _ _ _=>none⟩
 |_=>none
theorem wyw:LpAt G27.shallow ⟨0,179,ve0⟩ f48 0:=
 val rfl (fun x=>(n108n_bp0 x).p) vve vus (Sum.elim ((exZ .ret vve vus)) ((exZ (.exit 0) vve vus))) (fun _ _=>⟨rfl,rfl⟩) (fun z=>by rcases z with z|z<;>(intro h;cases h)) (fun k z=>by rcases z with z|z<;>rfl) (fun x=>by kernel_rfl)
theorem wqc:LpAt G27.shallow ⟨0,179,ve0⟩ f48 2:=
 val rfl (fun x=>(n108n_bp2 x).p) vty vto (Sum.elim ((exZ .ret vty vto)) ((exZ (.exit 2) vty vto))) (fun _ _=>⟨rfl,rfl⟩) (fun z=>by rcases z with z|z<;>(intro h;cases h)) (fun k z=>by rcases z with z|z<;>rfl) (fun x=>by kernel_rfl)
theorem wxa:LpAt G27.shallow ⟨0,179,ve0⟩ f48 4:=
 val rfl (fun x=>(n108n_bp4 x).p) vu6 vth (Sum.elim ((exZ .ret vu6 vth)) ((exZ (.exit 4) vu6 vth))) (fun _ _=>⟨rfl,rfl⟩) (fun z=>by rcases z with z|z<;>(intro h;cases h)) (fun k z=>by rcases z with z|z<;>rfl) (fun x=>by kernel_rfl)
theorem wya:LpAt G27.shallow ⟨0,179,ve0⟩ f48 8:=
 val rfl (fun x=>(n108n_bp8 x).p) vtz vuk (Sum.elim ((exZ .ret vtz vuk)) ((exZ (.exit 8) vtz vuk))) (fun _ _=>⟨rfl,rfl⟩) (fun z=>by rcases z with z|z<;>(intro h;cases h)) (fun k z=>by rcases z with z|z<;>rfl) (fun x=>by kernel_rfl)
theorem wvh:LpAt G27.shallow ⟨0,179,ve0⟩ f48 6:=
 val rfl (fun x=>(n108n_bp6 x).p) vum vuf (Sum.elim ((exZ (.exit 6) vum vuf)) ((exZ .ret vum vuf))) (fun _ _=>⟨rfl,rfl⟩) (fun z=>by rcases z with z|z<;>(intro h;cases h)) (fun k z=>by rcases z with z|z<;>rfl) (fun x=>by kernel_rfl)
theorem v2y:CtAt G27.shallow ⟨0,179,ve0⟩ f48 5000003:=
 vby rfl (fun x=>(n108n_jp5000003 x).p) vh2 vhz (exZ .ret vh2 vhz) (fun _ _=>⟨rfl,rfl⟩) (fun _ _=>rfl) (fun x=>by kernel_rfl)
theorem w78:vad prog 48 www:=
 vap G27_ok.shallow follows (f48.body.getD .skip) func48 (by kernel_rfl) fun p q=>⟨ve0,(n108n_p _).p.map _,by rw [wh8];kernel_rfl,vaa (ids:=[0,2,4,8,6,5000003]) (by kernel_rfl) (by kernel_rfl) ⟨wyw,⟨wqc,⟨wxa,⟨wya,⟨wvh,⟨v2y,trivial⟩⟩⟩⟩⟩⟩⟩
def G28:Glob:=G27.add 48 www
theorem G28_ok:GlobOk prog G28:=G27_ok.add ⟨f48,func48,by kernel_rfl,by kernel_rfl⟩ w78
def wjc:Nat→Option LoopSpec
 |_=>none
theorem w7g:vad prog 107 wvd:=
 vap G28_ok.shallow follows (f107.body.getD .skip) func107 (by kernel_rfl) fun p q=>⟨wjc,(n131n_p _).p.map _,by rw [wgm];kernel_rfl,vaa (ids:=[]) (by kernel_rfl) (by kernel_rfl) trivial⟩
def G29:Glob:=G28.add 107 wvd
theorem G29_ok:GlobOk prog G29:=G28_ok.add ⟨f107,func107,by kernel_rfl,by kernel_rfl⟩ w7g
def wbf:q9T→List AV:=fun x=>[.lst tTxn x.1,.own 0,.i x.2.1]
def wb7:q9T→St:=fun x=>[.arr tTxn x.2.2]
def vys:Nat→Option LoopSpec
 |0=>some (lpS [0,3,4] [] [.lst tTxn,.own 0,.i] [.arr tTxn] vka (fun p q=>(p.1,p.2.2.1,q.1)) (fun k=>(onE (exZ (.exit 0) wbf wb7) k)))
 |_=>none
theorem wp9:LpAt G29.shallow ⟨0,21,vys⟩ f134 0:=
 val rfl (fun x=>(n133n_bp0 x).p) wbf wb7 (exZ (.exit 0) wbf wb7) (fun _ _=>⟨rfl,rfl⟩) (fun z=>by(intro h;cases h)) (fun _ _=>rfl) (fun x=>by kernel_rfl)
theorem w9g:vad prog 134 ws7:=
 vap G29_ok.shallow follows (f134.body.getD .skip) func134 (by kernel_rfl) fun p q=>⟨vys,(n133n_p _).p.map _,by rw [wiy];kernel_rfl,vaa (ids:=[0]) (by kernel_rfl) (by kernel_rfl) ⟨wp9,trivial⟩⟩
def G30:Glob:=G29.add 134 ws7
theorem G30_ok:GlobOk prog G30:=G29_ok.add ⟨f134,func134,by kernel_rfl,by kernel_rfl⟩ w9g
def wis:Nat→Option LoopSpec
 |1000001=>some ⟨[2],[],fun _ _ _=>none⟩
 |_=>none
theorem w6k:vad prog 62 wsw:=
 vap G30_ok.shallow follows (f62.body.getD .skip) func62 (by kernel_rfl) fun p q=>⟨wis,(n132n_p _).p.map _,by rw [wfd];kernel_rfl,vaa (ids:=[]) (by kernel_rfl) (by kernel_rfl) trivial⟩
def G31:Glob:=G30.add 62 wsw
theorem G31_ok:GlobOk prog G31:=G30_ok.add ⟨f62,func62,by kernel_rfl,by kernel_rfl⟩ w6k
def wi9:Nat→Option LoopSpec
 |_=>none
theorem w60:vad prog 131 wsx:=
 vap G31_ok.shallow follows (f131.body.getD .skip) func131 (by kernel_rfl) fun p q=>⟨wi9,(n135n_p _).p.map _,by rw [wg3];kernel_rfl,vaa (ids:=[]) (by kernel_rfl) (by kernel_rfl) trivial⟩
def G32:Glob:=G31.add 131 wsx
theorem G32_ok:GlobOk prog G32:=G31_ok.add ⟨f131,func131,by kernel_rfl,by kernel_rfl⟩ w60
def wh5:Nat→Option LoopSpec
 |_=>none
theorem w7m:vad prog 133 ww7:=
 vap G32_ok.shallow follows (f133.body.getD .skip) func133 (by kernel_rfl) fun p q=>⟨wh5,(n134n_p _).p.map _,by rw [wii];kernel_rfl,vaa (ids:=[]) (by kernel_rfl) (by kernel_rfl) trivial⟩
def G33:Glob:=G32.add 133 ww7
theorem G33_ok:GlobOk prog G33:=G32_ok.add ⟨f133,func133,by kernel_rfl,by kernel_rfl⟩ w7m
def vhy:q64T→List AV:=fun x=>[.bp 0 0,.bool x.1]
def vid:q64T→St:=fun x=>let xh:=x.2.2.2.2;let xi:=xh.2.2.2.2;let xj:=xi.2.2.2.2;[.box [.i x.2.1,.i x.2.2.1,.i x.2.2.2.1,.i xh.1,.i xh.2.1,.lst tRange xh.2.2.1,.lst tWrite xh.2.2.2.1,.bool xi.1,.str xi.2.1,.str xi.2.2.1,.bool xi.2.2.2.1,.lst tVersion xj.1,.lst tTxn xj.2.1,.lst tTxn xj.2.2.1,.i xj.2.2.2.1,.i xj.2.2.2.2]]
def vhx:q64T→List AV:=fun x=>[.bp 0 0,.bool x.1]
def vii:q64T→St:=fun x=>let xh:=x.2.2.2.2;let xi:=xh.2.2.2.2;let xj:=xi.2.2.2.2;[.box [.i x.2.1,.i x.2.2.1,.i x.2.2.2.1,.i xh.1,.i xh.2.1,.lst tRange xh.2.2.1,.lst tWrite xh.2.2.2.1,.bool xi.1,.str xi.2.1,.str xi.2.2.1,.bool xi.2.2.2.1,.lst tVersion xj.1,.lst tTxn xj.2.1,.lst tTxn xj.2.2.1,.i xj.2.2.2.1,.i xj.2.2.2.2]]
def vh3:q55T→List AV:=fun x=>[.bp 0 0,.bool x.1,.bool x.2.1]
def vhu:q55T→St:=fun x=>let xh:=x.2.2.2.2;let xi:=xh.2.2.2.2;let xj:=xi.2.2.2.2;[.box [.i x.2.2.1,.i x.2.2.2.1,.i xh.1,.i xh.2.1,.i xh.2.2.1,.lst tRange xh.2.2.2.1,.lst tWrite xi.1,.bool xi.2.1,.str xi.2.2.1,.str xi.2.2.2.1,.bool xj.1,.lst tVersion xj.2.1,.lst tTxn xj.2.2.1,.lst tTxn xj.2.2.2.1,.i xj.2.2.2.2.1,.i xj.2.2.2.2.2]]
def vnp:q64T→Out×List AV×St:=fun z=>let zh:=z.2.2.2.2;let zi:=zh.2.2.2.2;let zj:=zi.2.2.2.2;(.ret,[.bp 0 0,.bool z.1,.dead],[.box [.i z.2.1,.i z.2.2.1,.i z.2.2.2.1,.i zh.1,.i zh.2.1,.lst tRange zh.2.2.1,.lst tWrite zh.2.2.2.1,.bool zi.1,.str zi.2.1,.str zi.2.2.1,.bool zi.2.2.2.1,.lst tVersion zj.1,.lst tTxn zj.2.1,.lst tTxn zj.2.2.1,.i zj.2.2.2.1,.i zj.2.2.2.2]])
def vmb:Nat→Option LoopSpec
 |5000008=>some (ctS [1,2] [] [.bp 0 0,.bool] [.box [.i,.i,.i,.i,.i,.lst tRange,.lst tWrite,.bool,.str,.str,.bool,.lst tVersion,.lst tTxn,.lst tTxn,.i,.i]] vb4 (fun p q=>(p.2.1,q.1.1,q.1.2.1,q.1.2.2.1,q.1.2.2.2.1,q.1.2.2.2.2.1,q.1.2.2.2.2.2.1,q.1.2.2.2.2.2.2.1,q.1.2.2.2.2.2.2.2.1,q.1.2.2.2.2.2.2.2.2.1,q.1.2.2.2.2.2.2.2.2.2.1,q.1.2.2.2.2.2.2.2.2.2.2.1,q.1.2.2.2.2.2.2.2.2.2.2.2.1,q.1.2.2.2.2.2.2.2.2.2.2.2.2.1,q.1.2.2.2.2.2.2.2.2.2.2.2.2.2.1,q.1.2.2.2.2.2.2.2.2.2.2.2.2.2.2.1,q.1.2.2.2.2.2.2.2.2.2.2.2.2.2.2.2.1)) (fun k=>(onE (exZ .ret vhy vid) k)))
 |5000006=>some (ctS [1,2] [] [.bp 0 0,.bool] [.box [.i,.i,.i,.i,.i,.lst tRange,.lst tWrite,.bool,.str,.str,.bool,.lst tVersion,.lst tTxn,.lst tTxn,.i,.i]] var (fun p q=>(p.2.1,q.1.1,q.1.2.1,q.1.2.2.1,q.1.2.2.2.1,q.1.2.2.2.2.1,q.1.2.2.2.2.2.1,q.1.2.2.2.2.2.2.1,q.1.2.2.2.2.2.2.2.1,q.1.2.2.2.2.2.2.2.2.1,q.1.2.2.2.2.2.2.2.2.2.1,q.1.2.2.2.2.2.2.2.2.2.2.1,q.1.2.2.2.2.2.2.2.2.2.2.2.1,q.1.2.2.2.2.2.2.2.2.2.2.2.2.1,q.1.2.2.2.2.2.2.2.2.2.2.2.2.2.1,q.1.2.2.2.2.2.2.2.2.2.2.2.2.2.2.1,q.1.2.2.2.2.2.2.2.2.2.2.2.2.2.2.2.1)) (fun k=>(onE (exZ .ret vhx vii) k)))
 |5000004=>some (ctS [1,2,3] [] [.bp 0 0,.bool,.bool] [.box [.i,.i,.i,.i,.i,.lst tRange,.lst tWrite,.bool,.str,.str,.bool,.lst tVersion,.lst tTxn,.lst tTxn,.i,.i]] vc1 (fun p q=>(p.2.1,p.2.2.1,q.1.1,q.1.2.1,q.1.2.2.1,q.1.2.2.2.1,q.1.2.2.2.2.1,q.1.2.2.2.2.2.1,q.1.2.2.2.2.2.2.1,q.1.2.2.2.2.2.2.2.1,q.1.2.2.2.2.2.2.2.2.1,q.1.2.2.2.2.2.2.2.2.2.1,q.1.2.2.2.2.2.2.2.2.2.2.1,q.1.2.2.2.2.2.2.2.2.2.2.2.1,q.1.2.2.2.2.2.2.2.2.2.2.2.2.1,q.1.2.2.2.2.2.2.2.2.2.2.2.2.2.1,q.1.2.2.2.2.2.2.2.2.2.2.2.2.2.2.1,q.1.2.2.2.2.2.2.2.2.2.2.2.2.2.2.2.1)) (fun k=>(Sum.elim (onE (exZ .ret vh3 vhu) k) (onE vnp k))))
 |_=>none
theorem v3n:CtAt G33.shallow ⟨0,87,vmb⟩ f61 5000008:=
 vby rfl (fun x=>(n120n_jp5000008 x).p) vhy vid (exZ .ret vhy vid) (fun _ _=>⟨rfl,rfl⟩) (fun _ _=>rfl) (fun x=>by kernel_rfl)
theorem vz2:CtAt G33.shallow ⟨0,87,vmb⟩ f61 5000006:=
 vby rfl (fun x=>(n120n_jp5000006 x).p) vhx vii (exZ .ret vhx vii) (fun _ _=>⟨rfl,rfl⟩) (fun _ _=>rfl) (fun x=>by kernel_rfl)
theorem vyp:CtAt G33.shallow ⟨0,87,vmb⟩ f61 5000004:=
 vby rfl (fun x=>(n120n_jp5000004 x).p) vh3 vhu (Sum.elim ((exZ .ret vh3 vhu)) (vnp)) (fun _ _=>⟨rfl,rfl⟩) (fun k z=>by rcases z with z|z<;>rfl) (fun x=>by kernel_rfl)
theorem w8y:vad prog 61 wvx:=
 vap G33_ok.shallow follows (f61.body.getD .skip) func61 (by kernel_rfl) fun p q=>⟨vmb,(n120n_p _).p.map _,by rw [wip];kernel_rfl,vaa (ids:=[5000008,5000006,5000004]) (by kernel_rfl) (by kernel_rfl) ⟨v3n,⟨vz2,⟨vyp,trivial⟩⟩⟩⟩
def G34:Glob:=G33.add 61 wvx
theorem G34_ok:GlobOk prog G34:=G33_ok.add ⟨f61,func61,by kernel_rfl,by kernel_rfl⟩ w8y
def whr:Nat→Option LoopSpec
 |_=>none
theorem w7v:vad prog 187 wrc:=
 vap G34_ok.shallow follows (f187.body.getD .skip) func187 (by kernel_rfl) fun p q=>⟨whr,(n109n_p ..).p.map _,by rw [wg2];kernel_rfl,vaa (ids:=[]) (by kernel_rfl) (by kernel_rfl) trivial⟩
def G35:Glob:=G34.add 187 wrc
theorem G35_ok:GlobOk prog G35:=G34_ok.add ⟨f187,func187,by kernel_rfl,by kernel_rfl⟩ w7v
def wfr:Nat→Option LoopSpec
 |_=>none
theorem w8x:vad prog 127 wx0:=
 vap G35_ok.shallow follows (f127.body.getD .skip) func127 (by kernel_rfl) fun p q=>⟨wfr,(n111n_p ..).p.map _,by rw [wiu];kernel_rfl,vaa (ids:=[]) (by kernel_rfl) (by kernel_rfl) trivial⟩
def G36:Glob:=G35.add 127 wx0
theorem G36_ok:GlobOk prog G36:=G35_ok.add ⟨f127,func127,by kernel_rfl,by kernel_rfl⟩ w8x
def vtt:q3T→List AV:=fun x=>[.lst tRange x.1,.lst tWrite x.2.1,.bool x.2.2.1,.i x.2.2.2.1,.i x.2.2.2.2]
def vt4:q3T→St:=fun x=>[]
def vu9:q4T→List AV:=fun x=>[.lst tRange x.1,.lst tWrite x.2.1,.bool x.2.2.1,.i x.2.2.2]
def vui:q4T→St:=fun x=>[]
def vr4:Nat→Option LoopSpec
 |2=>some (lpS [0,1,4,5,6] [] [.lst tRange,.lst tWrite,.bool,.i,.i] [] vjc (fun p q=>(p.1,p.2.1,p.2.2.1,p.2.2.2.1,p.2.2.2.2.1)) (fun k=>(Sum.elim (onE (exZ .ret vtt vt4) k) (onE (exZ (.exit 2) vtt vt4) k))))
 |0=>some (lpS [0,1,4,5] [] [.lst tRange,.lst tWrite,.bool,.i] [] vj5 (fun p q=>(p.1,p.2.1,p.2.2.1,p.2.2.2.1)) (fun k=>(Sum.elim (onE (exZ (.exit 0) vu9 vui) k) (onE (exZ .ret vu9 vui) k))))
 |2000007=>some ⟨[0,2,4,6,8,10,12,14,16,18],[],fun _ _ _=>none⟩
 |_=>none
theorem wv2:LpAt G36.shallow ⟨0,29,vr4⟩ f57 2:=
 val rfl (fun x=>(n123n_bp2 x).p) vtt vt4 (Sum.elim ((exZ .ret vtt vt4)) ((exZ (.exit 2) vtt vt4))) (fun _ _=>⟨rfl,rfl⟩) (fun z=>by rcases z with z|z<;>(intro h;cases h)) (fun k z=>by rcases z with z|z<;>rfl) (fun x=>by kernel_rfl)
theorem wqx:LpAt G36.shallow ⟨0,29,vr4⟩ f57 0:=
 val rfl (fun x=>(n123n_bp0 x).p) vu9 vui (Sum.elim ((exZ (.exit 0) vu9 vui)) ((exZ .ret vu9 vui))) (fun _ _=>⟨rfl,rfl⟩) (fun z=>by rcases z with z|z<;>(intro h;cases h)) (fun k z=>by rcases z with z|z<;>rfl) (fun x=>by kernel_rfl)
theorem w8h:vad prog 57 wx8:=
 vap G36_ok.shallow follows (f57.body.getD .skip) func57 (by kernel_rfl) fun p q=>⟨vr4,(n123n_p ..).p.map _,by rw [wjg];kernel_rfl,vaa (ids:=[2,0]) (by kernel_rfl) (by kernel_rfl) ⟨wv2,⟨wqx,trivial⟩⟩⟩
def G37:Glob:=G36.add 57 wx8
theorem G37_ok:GlobOk prog G37:=G36_ok.add ⟨f57,func57,by kernel_rfl,by kernel_rfl⟩ w8h
def whw:Nat→Option LoopSpec
 |_=>none
theorem w8a:vad prog 125 wst:=
 vap G37_ok.shallow follows (f125.body.getD .skip) func125 (by kernel_rfl) fun p q=>⟨whw,(n107n_p ..).p.map _,by rw [wi4];kernel_rfl,vaa (ids:=[]) (by kernel_rfl) (by kernel_rfl) trivial⟩
def G38:Glob:=G37.add 125 wst
theorem G38_ok:GlobOk prog G38:=G37_ok.add ⟨f125,func125,by kernel_rfl,by kernel_rfl⟩ w8a
def vvb:q8T→List AV:=fun x=>[.lst tTxn x.1,.bp 0 0,.bool x.2.1,.i x.2.2.1]
def vuc:q8T→St:=fun x=>let xh:=x.2.2.2.2;[.box [.i x.2.2.2.1,.i xh.1,.i xh.2.1,.i xh.2.2.1,.lst tRange xh.2.2.2.1,.lst tWrite xh.2.2.2.2.1,.bool xh.2.2.2.2.2.1,.str xh.2.2.2.2.2.2]]
def v0r:Nat→Option LoopSpec
 |0=>some (lpS [1,2,4,5] [] [.lst tTxn,.bp 0 0,.bool,.i] [.box [.i,.i,.i,.i,.lst tRange,.lst tWrite,.bool,.str]] vi1 (fun p q=>(p.1,p.2.2.1,p.2.2.2.1,q.1.1,q.1.2.1,q.1.2.2.1,q.1.2.2.2.1,q.1.2.2.2.2.1,q.1.2.2.2.2.2.1,q.1.2.2.2.2.2.2.1,q.1.2.2.2.2.2.2.2.1)) (fun k=>(Sum.elim (onE (exZ .ret vvb vuc) k) (onE (exZ (.exit 0) vvb vuc) k))))
 |2000004=>some ⟨[0,2,4,6,8,10,12,14,16,18,20,22,25,26],[],fun _ _ _=>none⟩
 |_=>none
theorem wyy:LpAt G38.shallow ⟨0,26,v0r⟩ f108 0:=
 val rfl (fun x=>(n115n_bp0 x).p) vvb vuc (Sum.elim ((exZ .ret vvb vuc)) ((exZ (.exit 0) vvb vuc))) (fun _ _=>⟨rfl,rfl⟩) (fun z=>by rcases z with z|z<;>(intro h;cases h)) (fun k z=>by rcases z with z|z<;>rfl) (fun x=>by kernel_rfl)
theorem w8z:vad prog 108 wss:=
 vap G38_ok.shallow follows (f108.body.getD .skip) func108 (by kernel_rfl) fun p q=>⟨v0r,(n115n_p ..).p.map _,by rw [wg1];kernel_rfl,vaa (ids:=[0]) (by kernel_rfl) (by kernel_rfl) ⟨wyy,trivial⟩⟩
def G39:Glob:=G38.add 108 wss
theorem G39_ok:GlobOk prog G39:=G38_ok.add ⟨f108,func108,by kernel_rfl,by kernel_rfl⟩ w8z
def vhv:q41T→List AV:=fun x=>[.lst tWrite x.1,.i x.2.1,.own 0,.i x.2.2.1,.bp 1 0,.own 2,.i x.2.2.2.1]
def vip:q41T→St:=fun x=>let xh:=x.2.2.2.2;[.arr tVersion xh.1,.box [.str xh.2.1,.str xh.2.2.1,.bool xh.2.2.2.1,.i xh.2.2.2.2.1],.arr tVersion xh.2.2.2.2.2]
def v8x:q41T→List AV:=fun x=>[.lst tWrite x.1,.i x.2.1,.own 0,.i x.2.2.1,.bp 1 0,.own 2,.i x.2.2.2.1]
def wbk:q41T→St:=fun x=>let xh:=x.2.2.2.2;[.arr tVersion xh.1,.box [.str xh.2.1,.str xh.2.2.1,.bool xh.2.2.2.1,.i xh.2.2.2.2.1],.arr tVersion xh.2.2.2.2.2]
def wb1:q40T→List AV:=fun x=>[.lst tWrite x.1,.i x.2.1,.own 0,.i x.2.2.1]
def v9f:q40T→St:=fun x=>[.arr tVersion x.2.2.2]
def vnc:Nat→Option LoopSpec
 |6000003=>some (ctS [1,2,7,8,9,10,11] [] [.lst tWrite,.i,.own 0,.i,.bp 1 0,.own 2,.i] [.arr tVersion,.box [.str,.str,.bool,.i],.arr tVersion] vdt (fun p q=>(p.1,p.2.1,p.2.2.2.1,p.2.2.2.2.2.2.1,q.1,q.2.1.1,q.2.1.2.1,q.2.1.2.2.1,q.2.1.2.2.2.1,q.2.2.1)) (fun k=>(onE (exZ .norm vhv vip) k)))
 |2=>some (lpS [1,2,7,8,9,10,11] [] [.lst tWrite,.i,.own 0,.i,.bp 1 0,.own 2,.i] [.arr tVersion,.box [.str,.str,.bool,.i],.arr tVersion] vm3 (fun p q=>(p.1,p.2.1,p.2.2.2.1,p.2.2.2.2.2.2.1,q.1,q.2.1.1,q.2.1.2.1,q.2.1.2.2.1,q.2.1.2.2.2.1,q.2.2.1)) (fun k=>(onE (exZ (.exit 2) v8x wbk) k)))
 |0=>some (lpS [1,2,7,8] [] [.lst tWrite,.i,.own 0,.i] [.arr tVersion] vmg (fun p q=>(p.1,p.2.1,p.2.2.2.1,q.1)) (fun k=>(onE (exZ (.exit 0) wb1 v9f) k)))
 |2000008=>some ⟨[0,2,4,6,8,10,12,14,16,18,20,22,24,26,28,30,32,34,36,38,40,42,44,46,48,50,52,54,56,58,60,62,64,66],[],fun _ _ _=>none⟩
 |_=>none
theorem v1n:CtAt G39.shallow ⟨0,93,vnc⟩ f124 6000003:=
 vby rfl (fun x=>(n117n_jp6000003 x).p) vhv vip (exZ .norm vhv vip) (fun _ _=>⟨rfl,rfl⟩) (fun _ _=>rfl) (fun x=>by kernel_rfl)
theorem wxo:LpAt G39.shallow ⟨0,93,vnc⟩ f124 2:=
 val rfl (fun x=>(n117n_bp2 x).p) v8x wbk (exZ (.exit 2) v8x wbk) (fun _ _=>⟨rfl,rfl⟩) (fun z=>by(intro h;cases h)) (fun _ _=>rfl) (fun x=>by kernel_rfl)
theorem wtb:LpAt G39.shallow ⟨0,93,vnc⟩ f124 0:=
 val rfl (fun x=>(n117n_bp0 x).p) wb1 v9f (exZ (.exit 0) wb1 v9f) (fun _ _=>⟨rfl,rfl⟩) (fun z=>by(intro h;cases h)) (fun _ _=>rfl) (fun x=>by kernel_rfl)
theorem w6v:vad prog 124 wwg:=
 vap G39_ok.shallow follows (f124.body.getD .skip) func124 (by kernel_rfl) fun p q=>⟨vnc,(n117n_p ..).p.map _,by rw [wjd];kernel_rfl,vaa (ids:=[6000003,2,0]) (by kernel_rfl) (by kernel_rfl) ⟨v1n,⟨wxo,⟨wtb,trivial⟩⟩⟩⟩
def G40:Glob:=G39.add 124 wwg
theorem G40_ok:GlobOk prog G40:=G39_ok.add ⟨f124,func124,by kernel_rfl,by kernel_rfl⟩ w6v
def v1x:q81T→List AV:=fun x=>[.bp 0 0,.bp 1 0,.bp 2 0,.bp 3 0,.bp 4 0,.i x.1,.bp 5 0]
def vzs:q81T→St:=fun x=>let xh:=x.2.2.2.2;let xi:=xh.2.2.2.2;let xj:=xi.2.2.2.2;let xk:=xj.2.2.2.2;let xl:=xk.2.2.2.2;let xm:=xl.2.2.2.2;let xn:=xm.2.2.2.2;let xo:=xn.2.2.2.2;[.box [.lst tVersion x.2.1,.lst tTxn x.2.2.1,.lst tTxn x.2.2.2.1,.i xh.1,.i xh.2.1],.box [.i xh.2.2.1,.i xh.2.2.2.1,.i xi.1,.i xi.2.1,.lst tRange xi.2.2.1,.lst tWrite xi.2.2.2.1,.bool xj.1,.str xj.2.1],.box [.own 6,.own 7,.own 8,.i xj.2.2.1,.i xj.2.2.2.1],.box [.own 9,.own 10,.own 11,.i xk.1,.i xk.2.1],.box [.i xk.2.2.1,.i xk.2.2.2.1,.i xl.1,.i xl.2.1,.lst tRange xl.2.2.1,.lst tWrite xl.2.2.2.1,.bool xm.1,.str xm.2.1],.box [.i xm.2.2.1,.i xm.2.2.2.1,.i xn.1,.i xn.2.1,.own 12,.own 13,.bool xn.2.2.1,.str xn.2.2.2.1],.arr tVersion xo.1,.dep tTxn xo.2.1 0 [],.dep tTxn xo.2.2.1 0 [],.arr tVersion xo.2.2.2.1,.arr tTxn xo.2.2.2.2.1,.arr tTxn xo.2.2.2.2.2.1,.arr tRange xo.2.2.2.2.2.2.1,.arr tWrite xo.2.2.2.2.2.2.2]
def vnh:q80T→Out×List AV×St:=fun z=>let zh:=z.2.2.2.2;let zi:=zh.2.2.2.2;let zj:=zi.2.2.2.2;let zk:=zj.2.2.2.2;let zl:=zk.2.2.2.2;let zm:=zl.2.2.2.2;let zn:=zm.2.2.2.2;let zo:=zn.2.2.2.2;(.norm,[.bp 0 0,.bp 1 0,.bp 2 0,.bp 3 0,.bp 4 0,.i z.1,.bp 5 0],[.box [.lst tVersion z.2.1,.lst tTxn z.2.2.1,.lst tTxn z.2.2.2.1,.i zh.1,.i zh.2.1],.box [.i zh.2.2.1,.i zh.2.2.2.1,.i zi.1,.i zi.2.1,.lst tRange zi.2.2.1,.lst tWrite zi.2.2.2.1,.bool zj.1,.str zj.2.1],.box [.own 6,.own 7,.own 8,.i zj.2.2.1,.i zj.2.2.2.1],.box [.own 9,.own 10,.own 11,.i zk.1,.i zk.2.1],.box [.i zk.2.2.1,.i zk.2.2.2.1,.i zl.1,.i zl.2.1,.lst tRange zl.2.2.1,.lst tWrite zl.2.2.2.1,.bool zm.1,.str zm.2.1],.box [.i zm.2.2.1,.i zm.2.2.2.1,.i zn.1,.i zn.2.1,.lst tRange zn.2.2.1,.lst tWrite zn.2.2.2.1,.bool zo.1,.str zo.2.1],.arr tVersion zo.2.2.1,.dep tTxn zo.2.2.2.1 0 [],.dep tTxn zo.2.2.2.2.1 0 [],.arr tVersion zo.2.2.2.2.2.1,.arr tTxn zo.2.2.2.2.2.2.1,.arr tTxn zo.2.2.2.2.2.2.2])
def wbd:q79T→List AV:=fun x=>[.bp 0 0,.bp 1 0,.bp 2 0,.bp 3 0,.bp 4 0,.i x.1]
def wb0:q79T→St:=fun x=>let xh:=x.2.2.2.2;let xi:=xh.2.2.2.2;let xj:=xi.2.2.2.2;let xk:=xj.2.2.2.2;let xl:=xk.2.2.2.2;let xm:=xl.2.2.2.2;[.box [.lst tVersion x.2.1,.lst tTxn x.2.2.1,.lst tTxn x.2.2.2.1,.i xh.1,.i xh.2.1],.box [.i xh.2.2.1,.i xh.2.2.2.1,.i xi.1,.i xi.2.1,.lst tRange xi.2.2.1,.lst tWrite xi.2.2.2.1,.bool xj.1,.str xj.2.1],.box [.own 5,.own 6,.own 7,.i xj.2.2.1,.i xj.2.2.2.1],.box [.own 8,.own 9,.own 10,.i xk.1,.i xk.2.1],.box [.i xk.2.2.1,.i xk.2.2.2.1,.i xl.1,.i xl.2.1,.lst tRange xl.2.2.1,.lst tWrite xl.2.2.2.1,.bool xm.1,.str xm.2.1],.arr tVersion xm.2.2.1,.dep tTxn xm.2.2.2.1 0 [],.dep tTxn xm.2.2.2.2.1 0 [],.arr tVersion xm.2.2.2.2.2.1,.arr tTxn xm.2.2.2.2.2.2.1,.arr tTxn xm.2.2.2.2.2.2.2]
def vyo:q21T→List AV:=fun x=>[.bp 0 0,.bp 1 0,.bp 2 0,.bp 3 0,.bp 4 0]
def v0b:q21T→St:=fun x=>let xh:=x.2.2.2.2;let xi:=xh.2.2.2.2;let xj:=xi.2.2.2.2;let xk:=xj.2.2.2.2;let xl:=xk.2.2.2.2;let xm:=xl.2.2.2.2;[.box [.lst tVersion x.1,.lst tTxn x.2.1,.lst tTxn x.2.2.1,.i x.2.2.2.1,.i xh.1],.box [.i xh.2.1,.i xh.2.2.1,.i xh.2.2.2.1,.i xi.1,.lst tRange xi.2.1,.lst tWrite xi.2.2.1,.bool xi.2.2.2.1,.str xj.1],.box [.own 5,.own 6,.own 7,.i xj.2.1,.i xj.2.2.1],.box [.own 8,.own 9,.own 10,.i xj.2.2.2.1,.i xk.1],.box [.i xk.2.1,.i xk.2.2.1,.i xk.2.2.2.1,.i xl.1,.own 11,.own 12,.bool xl.2.1,.str xl.2.2.1],.arr tVersion xl.2.2.2.1,.dep tTxn xm.1 0 [],.dep tTxn xm.2.1 0 [],.arr tVersion xm.2.2.1,.arr tTxn xm.2.2.2.1,.arr tTxn xm.2.2.2.2.1,.arr tRange xm.2.2.2.2.2.1,.arr tWrite xm.2.2.2.2.2.2]
def vns:q19T→Out×List AV×St:=fun z=>let zh:=z.2.2.2.2;let zi:=zh.2.2.2.2;let zj:=zi.2.2.2.2;let zk:=zj.2.2.2.2;let zl:=zk.2.2.2.2;(.ret,[.bp 0 0,.bp 1 0,.bp 2 0,.bp 3 0,.bp 4 0],[.box [.lst tVersion z.1,.lst tTxn z.2.1,.lst tTxn z.2.2.1,.i z.2.2.2.1,.i zh.1],.box [.i zh.2.1,.i zh.2.2.1,.i zh.2.2.2.1,.i zi.1,.lst tRange zi.2.1,.lst tWrite zi.2.2.1,.bool zi.2.2.2.1,.str zj.1],.box [.own 5,.own 6,.own 7,.i zj.2.1,.i zj.2.2.1],.box [.own 5,.own 6,.own 7,.i zj.2.2.2.1,.i zk.1],.box [.i zk.2.1,.i zk.2.2.1,.i zk.2.2.2.1,.i zl.1,.lst tRange zl.2.1,.lst tWrite zl.2.2.1,.bool zl.2.2.2.1,.str zl.2.2.2.2.1],.arr tVersion zl.2.2.2.2.2.1,.arr tTxn zl.2.2.2.2.2.2.1,.arr tTxn zl.2.2.2.2.2.2.2])
def vmu:Nat→Option LoopSpec
 |5000018=>some (ctS [2,3,4,5,6,7,8] [none,none,none,none,none,none,none,none,none,none,none,none,none,none,none,none,none,none,none,none,some tVersion,some tTxn,some tTxn] [.bp 0 0,.bp 1 0,.bp 2 0,.bp 3 0,.bp 4 0,.i,.bp 5 0] [.box [.lst tVersion,.lst tTxn,.lst tTxn,.i,.i],.box [.i,.i,.i,.i,.lst tRange,.lst tWrite,.bool,.str],.box [.own 6,.own 7,.own 8,.i,.i],.box [.own 9,.own 10,.own 11,.i,.i],.box [.i,.i,.i,.i,.lst tRange,.lst tWrite,.bool,.str],.box [.i,.i,.i,.i,.own 12,.own 13,.bool,.str],.arr tVersion,.dep tTxn 0,.dep tTxn 0,.arr tVersion,.arr tTxn,.arr tTxn,.arr tRange,.arr tWrite] vc0 (fun p q=>(p.2.2.2.2.2.1,q.1.1,q.1.2.1,q.1.2.2.1,q.1.2.2.2.1,q.1.2.2.2.2.1,q.2.1.1,q.2.1.2.1,q.2.1.2.2.1,q.2.1.2.2.2.1,q.2.1.2.2.2.2.1,q.2.1.2.2.2.2.2.1,q.2.1.2.2.2.2.2.2.1,q.2.1.2.2.2.2.2.2.2.1,q.2.2.1.2.2.2.1,q.2.2.1.2.2.2.2.1,q.2.2.2.1.2.2.2.1,q.2.2.2.1.2.2.2.2.1,q.2.2.2.2.1.1,q.2.2.2.2.1.2.1,q.2.2.2.2.1.2.2.1,q.2.2.2.2.1.2.2.2.1,q.2.2.2.2.1.2.2.2.2.1,q.2.2.2.2.1.2.2.2.2.2.1,q.2.2.2.2.1.2.2.2.2.2.2.1,q.2.2.2.2.1.2.2.2.2.2.2.2.1,q.2.2.2.2.2.1.1,q.2.2.2.2.2.1.2.1,q.2.2.2.2.2.1.2.2.1,q.2.2.2.2.2.1.2.2.2.1,q.2.2.2.2.2.1.2.2.2.2.2.2.1,q.2.2.2.2.2.1.2.2.2.2.2.2.2.1,q.2.2.2.2.2.2.1,q.2.2.2.2.2.2.2.1,q.2.2.2.2.2.2.2.2.1,q.2.2.2.2.2.2.2.2.2.1,q.2.2.2.2.2.2.2.2.2.2.1,q.2.2.2.2.2.2.2.2.2.2.2.1,q.2.2.2.2.2.2.2.2.2.2.2.2.1,q.2.2.2.2.2.2.2.2.2.2.2.2.2.1)) (fun k=>(onE vnh k)))
 |0=>some (lpS [2,3,4,5,6,7] [none,none,none,none,none,none,none,none,none,none,none,none,none,none,none,none,none,none,none,some tVersion,some tTxn,some tTxn] [.bp 0 0,.bp 1 0,.bp 2 0,.bp 3 0,.bp 4 0,.i] [.box [.lst tVersion,.lst tTxn,.lst tTxn,.i,.i],.box [.i,.i,.i,.i,.lst tRange,.lst tWrite,.bool,.str],.box [.own 5,.own 6,.own 7,.i,.i],.box [.own 8,.own 9,.own 10,.i,.i],.box [.i,.i,.i,.i,.lst tRange,.lst tWrite,.bool,.str],.arr tVersion,.dep tTxn 0,.dep tTxn 0,.arr tVersion,.arr tTxn,.arr tTxn] vi7 (fun p q=>(p.2.2.2.2.2.1,q.1.1,q.1.2.1,q.1.2.2.1,q.1.2.2.2.1,q.1.2.2.2.2.1,q.2.1.1,q.2.1.2.1,q.2.1.2.2.1,q.2.1.2.2.2.1,q.2.1.2.2.2.2.1,q.2.1.2.2.2.2.2.1,q.2.1.2.2.2.2.2.2.1,q.2.1.2.2.2.2.2.2.2.1,q.2.2.1.2.2.2.1,q.2.2.1.2.2.2.2.1,q.2.2.2.1.2.2.2.1,q.2.2.2.1.2.2.2.2.1,q.2.2.2.2.1.1,q.2.2.2.2.1.2.1,q.2.2.2.2.1.2.2.1,q.2.2.2.2.1.2.2.2.1,q.2.2.2.2.1.2.2.2.2.1,q.2.2.2.2.1.2.2.2.2.2.1,q.2.2.2.2.1.2.2.2.2.2.2.1,q.2.2.2.2.1.2.2.2.2.2.2.2.1,q.2.2.2.2.2.1,q.2.2.2.2.2.2.1,q.2.2.2.2.2.2.2.1,q.2.2.2.2.2.2.2.2.1,q.2.2.2.2.2.2.2.2.2.1,q.2.2.2.2.2.2.2.2.2.2.1)) (fun k=>(onE (exZ (.exit 0) wbd wb0) k)))
 |5000004=>some (ctS [2,3,4,5,6] [none,none,none,none,none,none,none,none,none,none,none,none,none,none,none,none,none,none,some tVersion,some tTxn,some tTxn] [.bp 0 0,.bp 1 0,.bp 2 0,.bp 3 0,.bp 4 0] [.box [.lst tVersion,.lst tTxn,.lst tTxn,.i,.i],.box [.i,.i,.i,.i,.lst tRange,.lst tWrite,.bool,.str],.box [.own 5,.own 6,.own 7,.i,.i],.box [.own 8,.own 9,.own 10,.i,.i],.box [.i,.i,.i,.i,.own 11,.own 12,.bool,.str],.arr tVersion,.dep tTxn 0,.dep tTxn 0,.arr tVersion,.arr tTxn,.arr tTxn,.arr tRange,.arr tWrite] vc4 (fun p q=>(q.1.1,q.1.2.1,q.1.2.2.1,q.1.2.2.2.1,q.1.2.2.2.2.1,q.2.1.1,q.2.1.2.1,q.2.1.2.2.1,q.2.1.2.2.2.1,q.2.1.2.2.2.2.1,q.2.1.2.2.2.2.2.1,q.2.1.2.2.2.2.2.2.1,q.2.1.2.2.2.2.2.2.2.1,q.2.2.1.2.2.2.1,q.2.2.1.2.2.2.2.1,q.2.2.2.1.2.2.2.1,q.2.2.2.1.2.2.2.2.1,q.2.2.2.2.1.1,q.2.2.2.2.1.2.1,q.2.2.2.2.1.2.2.1,q.2.2.2.2.1.2.2.2.1,q.2.2.2.2.1.2.2.2.2.2.2.1,q.2.2.2.2.1.2.2.2.2.2.2.2.1,q.2.2.2.2.2.1,q.2.2.2.2.2.2.1,q.2.2.2.2.2.2.2.1,q.2.2.2.2.2.2.2.2.1,q.2.2.2.2.2.2.2.2.2.1,q.2.2.2.2.2.2.2.2.2.2.1,q.2.2.2.2.2.2.2.2.2.2.2.1,q.2.2.2.2.2.2.2.2.2.2.2.2.1)) (fun k=>(onE vns k)))
 |_=>none
theorem v3d:CtAt G40.shallow ⟨0,85,vmu⟩ f55 5000018:=
 vby rfl (fun x=>(n121n_jp5000018 x).p) v1x vzs vnh (fun _ _=>⟨rfl,rfl⟩) (fun _ _=>rfl) (fun x=>by kernel_rfl)
theorem wyu:LpAt G40.shallow ⟨0,85,vmu⟩ f55 0:=
 val rfl (fun x=>(n121n_bp0 x).p) wbd wb0 (exZ (.exit 0) wbd wb0) (fun _ _=>⟨rfl,rfl⟩) (fun z=>by(intro h;cases h)) (fun _ _=>rfl) (fun x=>by kernel_rfl)
theorem v18:CtAt G40.shallow ⟨0,85,vmu⟩ f55 5000004:=
 vby rfl (fun x=>(n121n_jp5000004 x).p) vyo v0b vns (fun _ _=>⟨rfl,rfl⟩) (fun _ _=>rfl) (fun x=>by kernel_rfl)
theorem w8o:vad prog 55 wuf:=
 vap G40_ok.shallow follows (f55.body.getD .skip) func55 (by kernel_rfl) fun p q=>⟨vmu,(n121n_p ..).p.map _,by rw [wjh];kernel_rfl,vaa (ids:=[5000018,0,5000004]) (by kernel_rfl) (by kernel_rfl) ⟨v3d,⟨wyu,⟨v18,trivial⟩⟩⟩⟩
def G41:Glob:=G40.add 55 wuf
theorem G41_ok:GlobOk prog G41:=G40_ok.add ⟨f55,func55,by kernel_rfl,by kernel_rfl⟩ w8o
def vuj:q72T→List AV:=fun x=>[.str x.1,.bp 0 0,.i x.2.1,.i x.2.2.1]
def vt8:q72T→St:=fun x=>[.box [.lst tVersion x.2.2.2.1,.lst tTxn x.2.2.2.2.1,.lst tTxn x.2.2.2.2.2.1,.i x.2.2.2.2.2.2.1,.i x.2.2.2.2.2.2.2]]
def vy6:Nat→Option LoopSpec
 |0=>some (lpS [1,2,4,5] [] [.str,.bp 0 0,.i,.i] [.box [.lst tVersion,.lst tTxn,.lst tTxn,.i,.i]] vjm (fun p q=>(p.1,p.2.2.1,p.2.2.2.1,q.1.1,q.1.2.1,q.1.2.2.1,q.1.2.2.2.1,q.1.2.2.2.2.1)) (fun k=>(Sum.elim (onE (exZ .ret vuj vt8) k) (onE (exZ (.exit 0) vuj vt8) k))))
 |_=>none
theorem wtz:LpAt G41.shallow ⟨0,22,vy6⟩ f40 0:=
 val rfl (fun x=>(n119n_bp0 x).p) vuj vt8 (Sum.elim ((exZ .ret vuj vt8)) ((exZ (.exit 0) vuj vt8))) (fun _ _=>⟨rfl,rfl⟩) (fun z=>by rcases z with z|z<;>(intro h;cases h)) (fun k z=>by rcases z with z|z<;>rfl) (fun x=>by kernel_rfl)
theorem w6h:vad prog 40 wse:=
 vap G41_ok.shallow follows (f40.body.getD .skip) func40 (by kernel_rfl) fun p q=>⟨vy6,(n119n_p ..).p.map _,by rw [wh7];kernel_rfl,vaa (ids:=[0]) (by kernel_rfl) (by kernel_rfl) ⟨wtz,trivial⟩⟩
def G42:Glob:=G41.add 40 wse
theorem G42_ok:GlobOk prog G42:=G41_ok.add ⟨f40,func40,by kernel_rfl,by kernel_rfl⟩ w6h
def v98:q71T→List AV:=fun x=>[.str x.1,.bp 0 0,.bp 1 0,.bp 2 0,.i x.2.1]
def v93:q71T→St:=fun x=>let xh:=x.2.2.2.2;let xi:=xh.2.2.2.2;[.box [.lst tVersion x.2.2.1,.lst tTxn x.2.2.2.1,.lst tTxn xh.1,.i xh.2.1,.i xh.2.2.1],.box [.nilS,.nilS,.nilS,.i xh.2.2.2.1,.i xi.1],.box [.own 3,.own 4,.own 5,.i xi.2.1,.i xi.2.2.1],.arr tVersion xi.2.2.2.1,.arr tTxn xi.2.2.2.2.1,.arr tTxn xi.2.2.2.2.2]
def vz7:Nat→Option LoopSpec
 |0=>some (lpS [1,2,4,5,6] [] [.str,.bp 0 0,.bp 1 0,.bp 2 0,.i] [.box [.lst tVersion,.lst tTxn,.lst tTxn,.i,.i],.box [.nilS,.nilS,.nilS,.i,.i],.box [.own 3,.own 4,.own 5,.i,.i],.arr tVersion,.arr tTxn,.arr tTxn] vix (fun p q=>(p.1,p.2.2.2.2.1,q.1.1,q.1.2.1,q.1.2.2.1,q.1.2.2.2.1,q.1.2.2.2.2.1,q.2.1.2.2.2.1,q.2.1.2.2.2.2.1,q.2.2.1.2.2.2.1,q.2.2.1.2.2.2.2.1,q.2.2.2.1,q.2.2.2.2.1,q.2.2.2.2.2.1)) (fun k=>(onE (exZ (.exit 0) v98 v93) k)))
 |1000007=>some ⟨[5,6,7],[],fun _ _ _=>none⟩
 |_=>none
theorem wxg:LpAt G42.shallow ⟨0,38,vz7⟩ f39 0:=
 val rfl (fun x=>(n110n_bp0 x).p) v98 v93 (exZ (.exit 0) v98 v93) (fun _ _=>⟨rfl,rfl⟩) (fun z=>by(intro h;cases h)) (fun _ _=>rfl) (fun x=>by kernel_rfl)
theorem w6j:vad prog 39 ww1:=
 vap G42_ok.shallow follows (f39.body.getD .skip) func39 (by kernel_rfl) fun p q=>⟨vz7,(n110n_p ..).p.map _,by rw [wiq];kernel_rfl,vaa (ids:=[0]) (by kernel_rfl) (by kernel_rfl) ⟨wxg,trivial⟩⟩
def G43:Glob:=G42.add 39 ww1
theorem G43_ok:GlobOk prog G43:=G42_ok.add ⟨f39,func39,by kernel_rfl,by kernel_rfl⟩ w6j
def v8v:q70T→List AV:=fun x=>[.str x.1,.bp 0 0,.bp 1 0,.bp 2 0,.bp 3 0,.bp 4 0,.i x.2.1]
def v9j:q70T→St:=fun x=>let xh:=x.2.2.2.2;let xi:=xh.2.2.2.2;let xj:=xi.2.2.2.2;let xk:=xj.2.2.2.2;let xl:=xk.2.2.2.2;let xm:=xl.2.2.2.2;[.box [.lst tVersion x.2.2.1,.lst tTxn x.2.2.2.1,.lst tTxn xh.1,.i xh.2.1,.i xh.2.2.1],.box [.i xh.2.2.2.1,.i xi.1,.i xi.2.1,.i xi.2.2.1,.lst tRange xi.2.2.2.1,.lst tWrite xj.1,.bool xj.2.1,.str xj.2.2.1],.box [.nilS,.nilS,.nilS,.i xj.2.2.2.1,.i xk.1],.box [.own 5,.own 6,.own 7,.i xk.2.1,.i xk.2.2.1],.box [.i xk.2.2.2.1,.i xl.1,.i xl.2.1,.i xl.2.2.1,.own 8,.own 9,.bool xl.2.2.2.1,.str xm.1],.arr tVersion xm.2.1,.arr tTxn xm.2.2.1,.arr tTxn xm.2.2.2.1,.arr tRange xm.2.2.2.2.1,.arr tWrite xm.2.2.2.2.2]
def wac:q69T→List AV:=fun x=>[.str x.1,.bp 0 0,.bp 1 0,.bp 2 0,.bp 3 0,.i x.2.1]
def waj:q69T→St:=fun x=>let xh:=x.2.2.2.2;let xi:=xh.2.2.2.2;let xj:=xi.2.2.2.2;let xk:=xj.2.2.2.2;[.box [.lst tVersion x.2.2.1,.lst tTxn x.2.2.2.1,.lst tTxn xh.1,.i xh.2.1,.i xh.2.2.1],.box [.i xh.2.2.2.1,.i xi.1,.i xi.2.1,.i xi.2.2.1,.lst tRange xi.2.2.2.1,.lst tWrite xj.1,.bool xj.2.1,.str xj.2.2.1],.box [.nilS,.nilS,.nilS,.i xj.2.2.2.1,.i xk.1],.box [.own 4,.own 5,.own 6,.i xk.2.1,.i xk.2.2.1],.arr tVersion xk.2.2.2.1,.arr tTxn xk.2.2.2.2.1,.arr tTxn xk.2.2.2.2.2]
def vze:q67T→List AV:=fun x=>[.str x.1,.bp 0 0,.bp 1 0,.bp 2 0,.bp 3 0,.bp 4 0]
def v3i:q67T→St:=fun x=>let xh:=x.2.2.2.2;let xi:=xh.2.2.2.2;let xj:=xi.2.2.2.2;let xk:=xj.2.2.2.2;let xl:=xk.2.2.2.2;let xm:=xl.2.2.2.2;[.box [.lst tVersion x.2.1,.lst tTxn x.2.2.1,.lst tTxn x.2.2.2.1,.i xh.1,.i xh.2.1],.box [.i xh.2.2.1,.i xh.2.2.2.1,.i xi.1,.i xi.2.1,.lst tRange xi.2.2.1,.lst tWrite xi.2.2.2.1,.bool xj.1,.str xj.2.1],.box [.nilS,.nilS,.nilS,.i xj.2.2.1,.i xj.2.2.2.1],.box [.own 5,.own 6,.own 7,.i xk.1,.i xk.2.1],.box [.i xk.2.2.1,.i xk.2.2.2.1,.i xl.1,.i xl.2.1,.own 8,.own 9,.bool xl.2.2.1,.str xl.2.2.2.1],.arr tVersion xm.1,.arr tTxn xm.2.1,.arr tTxn xm.2.2.1,.arr tRange xm.2.2.2.1,.arr tWrite xm.2.2.2.2]
def vnj:q66T→Out×List AV×St:=fun z=>let zh:=z.2.2.2.2;let zi:=zh.2.2.2.2;let zj:=zi.2.2.2.2;let zk:=zj.2.2.2.2;(.ret,[.str z.1,.bp 0 0,.bp 1 0,.bp 2 0,.bp 3 0,.dead],[.box [.lst tVersion z.2.1,.lst tTxn z.2.2.1,.lst tTxn z.2.2.2.1,.i zh.1,.i zh.2.1],.box [.i zh.2.2.1,.i zh.2.2.2.1,.i zi.1,.i zi.2.1,.lst tRange zi.2.2.1,.lst tWrite zi.2.2.2.1,.bool zj.1,.str zj.2.1],.box [.own 4,.own 5,.own 6,.i zj.2.2.1,.i zj.2.2.2.1],.box [.own 4,.own 5,.own 6,.i zk.1,.i zk.2.1],.arr tVersion zk.2.2.1,.arr tTxn zk.2.2.2.1,.arr tTxn zk.2.2.2.2])
def vm0:Nat→Option LoopSpec
 |0=>some (lpS [2,3,4,6,7,8,9] [] [.str,.bp 0 0,.bp 1 0,.bp 2 0,.bp 3 0,.bp 4 0,.i] [.box [.lst tVersion,.lst tTxn,.lst tTxn,.i,.i],.box [.i,.i,.i,.i,.lst tRange,.lst tWrite,.bool,.str],.box [.nilS,.nilS,.nilS,.i,.i],.box [.own 5,.own 6,.own 7,.i,.i],.box [.i,.i,.i,.i,.own 8,.own 9,.bool,.str],.arr tVersion,.arr tTxn,.arr tTxn,.arr tRange,.arr tWrite] vj9 (fun p q=>(p.1,p.2.2.2.2.2.2.1,q.1.1,q.1.2.1,q.1.2.2.1,q.1.2.2.2.1,q.1.2.2.2.2.1,q.2.1.1,q.2.1.2.1,q.2.1.2.2.1,q.2.1.2.2.2.1,q.2.1.2.2.2.2.1,q.2.1.2.2.2.2.2.1,q.2.1.2.2.2.2.2.2.1,q.2.1.2.2.2.2.2.2.2.1,q.2.2.1.2.2.2.1,q.2.2.1.2.2.2.2.1,q.2.2.2.1.2.2.2.1,q.2.2.2.1.2.2.2.2.1,q.2.2.2.2.1.1,q.2.2.2.2.1.2.1,q.2.2.2.2.1.2.2.1,q.2.2.2.2.1.2.2.2.1,q.2.2.2.2.1.2.2.2.2.2.2.1,q.2.2.2.2.1.2.2.2.2.2.2.2.1,q.2.2.2.2.2.1,q.2.2.2.2.2.2.1,q.2.2.2.2.2.2.2.1,q.2.2.2.2.2.2.2.2.1,q.2.2.2.2.2.2.2.2.2.1)) (fun k=>(onE (exZ (.exit 0) v8v v9j) k)))
 |2=>some (lpS [2,3,4,6,7,10] [] [.str,.bp 0 0,.bp 1 0,.bp 2 0,.bp 3 0,.i] [.box [.lst tVersion,.lst tTxn,.lst tTxn,.i,.i],.box [.i,.i,.i,.i,.lst tRange,.lst tWrite,.bool,.str],.box [.nilS,.nilS,.nilS,.i,.i],.box [.own 4,.own 5,.own 6,.i,.i],.arr tVersion,.arr tTxn,.arr tTxn] viz (fun p q=>(p.1,p.2.2.2.2.2.1,q.1.1,q.1.2.1,q.1.2.2.1,q.1.2.2.2.1,q.1.2.2.2.2.1,q.2.1.1,q.2.1.2.1,q.2.1.2.2.1,q.2.1.2.2.2.1,q.2.1.2.2.2.2.1,q.2.1.2.2.2.2.2.1,q.2.1.2.2.2.2.2.2.1,q.2.1.2.2.2.2.2.2.2.1,q.2.2.1.2.2.2.1,q.2.2.1.2.2.2.2.1,q.2.2.2.1.2.2.2.1,q.2.2.2.1.2.2.2.2.1,q.2.2.2.2.1,q.2.2.2.2.2.1,q.2.2.2.2.2.2.1)) (fun k=>(onE (exZ (.exit 2) wac waj) k)))
 |5000006=>some (ctS [2,3,4,6,7,8] [] [.str,.bp 0 0,.bp 1 0,.bp 2 0,.bp 3 0,.bp 4 0] [.box [.lst tVersion,.lst tTxn,.lst tTxn,.i,.i],.box [.i,.i,.i,.i,.lst tRange,.lst tWrite,.bool,.str],.box [.nilS,.nilS,.nilS,.i,.i],.box [.own 5,.own 6,.own 7,.i,.i],.box [.i,.i,.i,.i,.own 8,.own 9,.bool,.str],.arr tVersion,.arr tTxn,.arr tTxn,.arr tRange,.arr tWrite] vc6 (fun p q=>(p.1,q.1.1,q.1.2.1,q.1.2.2.1,q.1.2.2.2.1,q.1.2.2.2.2.1,q.2.1.1,q.2.1.2.1,q.2.1.2.2.1,q.2.1.2.2.2.1,q.2.1.2.2.2.2.1,q.2.1.2.2.2.2.2.1,q.2.1.2.2.2.2.2.2.1,q.2.1.2.2.2.2.2.2.2.1,q.2.2.1.2.2.2.1,q.2.2.1.2.2.2.2.1,q.2.2.2.1.2.2.2.1,q.2.2.2.1.2.2.2.2.1,q.2.2.2.2.1.1,q.2.2.2.2.1.2.1,q.2.2.2.2.1.2.2.1,q.2.2.2.2.1.2.2.2.1,q.2.2.2.2.1.2.2.2.2.2.2.1,q.2.2.2.2.1.2.2.2.2.2.2.2.1,q.2.2.2.2.2.1,q.2.2.2.2.2.2.1,q.2.2.2.2.2.2.2.1,q.2.2.2.2.2.2.2.2.1,q.2.2.2.2.2.2.2.2.2.1)) (fun k=>(onE vnj k)))
 |1000011=>some ⟨[7,10,11],[],fun _ _ _=>none⟩
 |1000017=>some ⟨[6,7,8],[],fun _ _ _=>none⟩
 |_=>none
theorem wu2:LpAt G43.shallow ⟨0,97,vm0⟩ f38 0:=
 val rfl (fun x=>(n113n_bp0 x).p) v8v v9j (exZ (.exit 0) v8v v9j) (fun _ _=>⟨rfl,rfl⟩) (fun z=>by(intro h;cases h)) (fun _ _=>rfl) (fun x=>by kernel_rfl)
theorem wug:LpAt G43.shallow ⟨0,97,vm0⟩ f38 2:=
 val rfl (fun x=>(n113n_bp2 x).p) wac waj (exZ (.exit 2) wac waj) (fun _ _=>⟨rfl,rfl⟩) (fun z=>by(intro h;cases h)) (fun _ _=>rfl) (fun x=>by kernel_rfl)
theorem v30:CtAt G43.shallow ⟨0,97,vm0⟩ f38 5000006:=
 vby rfl (fun x=>(n113n_jp5000006 x).p) vze v3i vnj (fun _ _=>⟨rfl,rfl⟩) (fun _ _=>rfl) (fun x=>by kernel_rfl)
theorem w8g:vad prog 38 wtc:=
 vap G43_ok.shallow follows (f38.body.getD .skip) func38 (by kernel_rfl) fun p q=>⟨vm0,(n113n_p ..).p.map _,by rw [wja];kernel_rfl,vaa (ids:=[0,2,5000006]) (by kernel_rfl) (by kernel_rfl) ⟨wu2,⟨wug,⟨v30,trivial⟩⟩⟩⟩
def G44:Glob:=G43.add 38 wtc
theorem G44_ok:GlobOk prog G44:=G43_ok.add ⟨f38,func38,by kernel_rfl,by kernel_rfl⟩ w8g
def v4b:q46T→List AV:=fun x=>[.bp 0 0,.bp 1 0,.bp 2 0,.bool x.1]
def v25:q46T→St:=fun x=>let xh:=x.2.2.2.2;let xi:=xh.2.2.2.2;let xj:=xi.2.2.2.2;let xk:=xj.2.2.2.2;let xl:=xk.2.2.2.2;[.box [.lst tVersion x.2.1,.lst tTxn x.2.2.1,.lst tTxn x.2.2.2.1,.i xh.1,.i xh.2.1],.box [.i xh.2.2.1,.i xh.2.2.2.1,.i xi.1,.i xi.2.1,.i xi.2.2.1,.lst tRange xi.2.2.2.1,.lst tWrite xj.1,.bool xj.2.1,.str xj.2.2.1,.str xj.2.2.2.1,.bool xk.1,.lst tVersion xk.2.1,.lst tTxn xk.2.2.1,.lst tTxn xk.2.2.2.1,.i xl.1,.i xl.2.1],.box [.own 3,.own 4,.own 5,.i xl.2.2.1,.i xl.2.2.2.1],.arr tVersion xl.2.2.2.2.1,.dep tTxn xl.2.2.2.2.2.1 0 [],.dep tTxn xl.2.2.2.2.2.2 0 []]
def vnk:q46T→Out×List AV×St:=fun z=>let zh:=z.2.2.2.2;let zi:=zh.2.2.2.2;let zj:=zi.2.2.2.2;let zk:=zj.2.2.2.2;let zl:=zk.2.2.2.2;(.ret,[.bp 0 0,.bp 1 0,.bp 2 0,.bool z.1],[.box [.lst tVersion z.2.1,.lst tTxn z.2.2.1,.lst tTxn z.2.2.2.1,.i zh.1,.i zh.2.1],.box [.i zh.2.2.1,.i zh.2.2.2.1,.i zi.1,.i zi.2.1,.i zi.2.2.1,.lst tRange zi.2.2.2.1,.lst tWrite zj.1,.bool zj.2.1,.str zj.2.2.1,.str zj.2.2.2.1,.bool zk.1,.lst tVersion zk.2.1,.lst tTxn zk.2.2.1,.lst tTxn zk.2.2.2.1,.i zl.1,.i zl.2.1],.box [.own 3,.own 4,.own 5,.i zl.2.2.1,.i zl.2.2.2.1],.arr tVersion zl.2.2.2.2.1,.arr tTxn zl.2.2.2.2.2.1,.arr tTxn zl.2.2.2.2.2.2])
def vz5:Nat→Option LoopSpec
 |5000009=>some (ctS [2,3,4,5] [none,none,none,none,none,none,none,none,none,none,none,none,none,none,none,none,none,none,none,none,none,none,none,none,none,some tVersion,some tTxn,some tTxn] [.bp 0 0,.bp 1 0,.bp 2 0,.bool] [.box [.lst tVersion,.lst tTxn,.lst tTxn,.i,.i],.box [.i,.i,.i,.i,.i,.lst tRange,.lst tWrite,.bool,.str,.str,.bool,.lst tVersion,.lst tTxn,.lst tTxn,.i,.i],.box [.own 3,.own 4,.own 5,.i,.i],.arr tVersion,.dep tTxn 0,.dep tTxn 0] veu (fun p q=>(p.2.2.2.1,q.1.1,q.1.2.1,q.1.2.2.1,q.1.2.2.2.1,q.1.2.2.2.2.1,q.2.1.1,q.2.1.2.1,q.2.1.2.2.1,q.2.1.2.2.2.1,q.2.1.2.2.2.2.1,q.2.1.2.2.2.2.2.1,q.2.1.2.2.2.2.2.2.1,q.2.1.2.2.2.2.2.2.2.1,q.2.1.2.2.2.2.2.2.2.2.1,q.2.1.2.2.2.2.2.2.2.2.2.1,q.2.1.2.2.2.2.2.2.2.2.2.2.1,q.2.1.2.2.2.2.2.2.2.2.2.2.2.1,q.2.1.2.2.2.2.2.2.2.2.2.2.2.2.1,q.2.1.2.2.2.2.2.2.2.2.2.2.2.2.2.1,q.2.1.2.2.2.2.2.2.2.2.2.2.2.2.2.2.1,q.2.1.2.2.2.2.2.2.2.2.2.2.2.2.2.2.2.1,q.2.2.1.2.2.2.1,q.2.2.1.2.2.2.2.1,q.2.2.2.1,q.2.2.2.2.1,q.2.2.2.2.2.1)) (fun k=>(onE vnk k)))
 |2000015=>some ⟨[0,2,4,6,8,10,13,14,16],[],fun _ _ _=>none⟩
 |_=>none
theorem v20:CtAt G44.shallow ⟨0,70,vz5⟩ f63 5000009:=
 vby rfl (fun x=>(n136n_jp5000009 x).p) v4b v25 vnk (fun _ _=>⟨rfl,rfl⟩) (fun _ _=>rfl) (fun x=>by kernel_rfl)
theorem w6u:vad prog 63 wu5:=
 vap G44_ok.shallow follows (f63.body.getD .skip) func63 (by kernel_rfl) fun p q=>⟨vz5,(n136n_p ..).p.map2 _ _,by rw [wf5];kernel_rfl,vaa (ids:=[5000009]) (by kernel_rfl) (by kernel_rfl) ⟨v20,trivial⟩⟩
def G45:Glob:=G44.add 63 wu5
theorem G45_ok:GlobOk prog G45:=G44_ok.add ⟨f63,func63,by kernel_rfl,by kernel_rfl⟩ w6u
def v99:(TL×Int×Int)→List AV:=fun x=>[.lst tTxn x.1,.i x.2.1,.i x.2.2]
def v8t:(TL×Int×Int)→St:=fun x=>[]
def v1t:Nat→Option LoopSpec
 |0=>some (lpS [1,5,6] [] [.lst tTxn,.i,.i] [] vjb (fun p q=>(p.1,p.2.1,p.2.2.1)) (fun k=>(onE (exZ (.exit 0) v99 v8t) k)))
 |_=>none
theorem wv5:LpAt G45.shallow ⟨0,28,v1t⟩ f46 0:=
 val rfl (fun x=>(n114n_bp0 x).p) v99 v8t (exZ (.exit 0) v99 v8t) (fun _ _=>⟨rfl,rfl⟩) (fun z=>by(intro h;cases h)) (fun _ _=>rfl) (fun x=>by kernel_rfl)
theorem w8u:vad prog 46 wqp:=
 vap G45_ok.shallow follows (f46.body.getD .skip) func46 (by kernel_rfl) fun p q=>⟨v1t,(n114n_p ..).p.map _,by rw [wfv];kernel_rfl,vaa (ids:=[0]) (by kernel_rfl) (by kernel_rfl) ⟨wv5,trivial⟩⟩
def G46:Glob:=G45.add 46 wqp
theorem G46_ok:GlobOk prog G46:=G45_ok.add ⟨f46,func46,by kernel_rfl,by kernel_rfl⟩ w8u
def v9w:q27T→List AV:=fun x=>[.lst tVersion x.1,.str x.2.1,.i x.2.2.1,.i x.2.2.2.1,.i x.2.2.2.2]
def wa0:q27T→St:=fun x=>[]
def v1s:Nat→Option LoopSpec
 |0=>some (lpS [0,1,2,7,8] [] [.lst tVersion,.str,.i,.i,.i] [] vj8 (fun p q=>(p.1,p.2.1,p.2.2.1,p.2.2.2.1,p.2.2.2.2.1)) (fun k=>(onE (exZ (.exit 0) v9w wa0) k)))
 |2000005=>some ⟨[0,2,4,6,8,10,12,14,16,18,20,22,24,26,28,30,32,34,36,38,40,42,44,46,48,50,52,54,56,58,60,62,64],[],fun _ _ _=>none⟩
 |_=>none
theorem ww8:LpAt G46.shallow ⟨0,50,v1s⟩ f126 0:=
 val rfl (fun x=>(n130n_bp0 x).p) v9w wa0 (exZ (.exit 0) v9w wa0) (fun _ _=>⟨rfl,rfl⟩) (fun z=>by(intro h;cases h)) (fun _ _=>rfl) (fun x=>by kernel_rfl)
theorem w8q:vad prog 126 wuj:=
 vap G46_ok.shallow follows (f126.body.getD .skip) func126 (by kernel_rfl) fun p q=>⟨v1s,(n130n_p ..).p.map _,by rw [we3];kernel_rfl,vaa (ids:=[0]) (by kernel_rfl) (by kernel_rfl) ⟨ww8,trivial⟩⟩
def G47:Glob:=G46.add 126 wuj
theorem G47_ok:GlobOk prog G47:=G46_ok.add ⟨f126,func126,by kernel_rfl,by kernel_rfl⟩ w8q
def vgx:q32T→List AV:=fun x=>[.lst tVersion x.1,.i x.2.1,.own 0,.i x.2.2.1,.bool x.2.2.2.1]
def vgy:q32T→St:=fun x=>[.arr tVersion x.2.2.2.2]
def v97:q31T→List AV:=fun x=>[.lst tVersion x.1,.i x.2.1,.own 0,.i x.2.2.1]
def wan:q31T→St:=fun x=>[.arr tVersion x.2.2.2]
def vgv:q89T→List AV:=fun x=>[.i x.1,.own 0,.own 1,.i x.2.1,.bool x.2.2.1]
def vgz:q89T→St:=fun x=>[.arr tVersion x.2.2.2.1,.arr tVersion x.2.2.2.2]
def wcd:q91T→List AV:=fun x=>[.i x.1,.own 0,.own 1,.i x.2.1,.i x.2.2.1,.i x.2.2.2.1]
def v89:q91T→St:=fun x=>[.arr tVersion x.2.2.2.2.1,.arr tVersion x.2.2.2.2.2]
def wa4:q87T→List AV:=fun x=>[.i x.1,.own 0,.own 1,.i x.2.1]
def wbn:q87T→St:=fun x=>[.arr tVersion x.2.2.1,.arr tVersion x.2.2.2]
def vf7:Nat→Option LoopSpec
 |15000007=>some (ctS [0,1,5,6,38] [] [.lst tVersion,.i,.own 0,.i,.bool] [.arr tVersion] vcl (fun p q=>(p.1,p.2.1,p.2.2.2.1,p.2.2.2.2.1,q.1)) (fun k=>(onE (exZ .norm vgx vgy) k)))
 |0=>some (lpS [0,1,5,6] [] [.lst tVersion,.i,.own 0,.i] [.arr tVersion] vje (fun p q=>(p.1,p.2.1,p.2.2.2.1,q.1)) (fun k=>(onE (exZ (.exit 0) v97 wan) k)))
 |15000019=>some (ctS [1,5,8,9,90] [] [.i,.own 0,.own 1,.i,.bool] [.arr tVersion,.arr tVersion] vb7 (fun p q=>(p.1,p.2.2.2.1,p.2.2.2.2.1,q.1,q.2.1)) (fun k=>(onE (exZ .norm vgv vgz) k)))
 |4=>some (lpS [1,5,8,9,10,11] [] [.i,.own 0,.own 1,.i,.i,.i] [.arr tVersion,.arr tVersion] vju (fun p q=>(p.1,p.2.2.2.1,p.2.2.2.2.1,p.2.2.2.2.2.1,q.1,q.2.1)) (fun k=>(onE (exZ (.exit 4) wcd v89) k)))
 |2=>some (lpS [1,5,8,9] [] [.i,.own 0,.own 1,.i] [.arr tVersion,.arr tVersion] vhh (fun p q=>(p.1,p.2.2.2.1,q.1,q.2.1)) (fun k=>(onE (exZ (.exit 2) wa4 wbn) k)))
 |2000016=>some ⟨[0,2,4,6,8,10,12,14,16,18,20],[],fun _ _ _=>none⟩
 |_=>none
theorem vxx:CtAt G47.shallow ⟨0,99,vf7⟩ f112 15000007:=
 vby rfl (fun x=>(n124n_jp15000007 x).p) vgx vgy (exZ .norm vgx vgy) (fun _ _=>⟨rfl,rfl⟩) (fun _ _=>rfl) (fun x=>by kernel_rfl)
theorem ww9:LpAt G47.shallow ⟨0,99,vf7⟩ f112 0:=
 val rfl (fun x=>(n124n_bp0 x).p) v97 wan (exZ (.exit 0) v97 wan) (fun _ _=>⟨rfl,rfl⟩) (fun z=>by(intro h;cases h)) (fun _ _=>rfl) (fun x=>by kernel_rfl)
theorem vxz:CtAt G47.shallow ⟨0,99,vf7⟩ f112 15000019:=
 vby rfl (fun x=>(n124n_jp15000019 x).p) vgv vgz (exZ .norm vgv vgz) (fun _ _=>⟨rfl,rfl⟩) (fun _ _=>rfl) (fun x=>by kernel_rfl)
theorem wyi:LpAt G47.shallow ⟨0,99,vf7⟩ f112 4:=
 val rfl (fun x=>(n124n_bp4 x).p) wcd v89 (exZ (.exit 4) wcd v89) (fun _ _=>⟨rfl,rfl⟩) (fun z=>by(intro h;cases h)) (fun _ _=>rfl) (fun x=>by kernel_rfl)
theorem wrp:LpAt G47.shallow ⟨0,99,vf7⟩ f112 2:=
 val rfl (fun x=>(n124n_bp2 x).p) wa4 wbn (exZ (.exit 2) wa4 wbn) (fun _ _=>⟨rfl,rfl⟩) (fun z=>by(intro h;cases h)) (fun _ _=>rfl) (fun x=>by kernel_rfl)
theorem w6e:vad prog 112 wrs:=
 vap G47_ok.shallow follows (f112.body.getD .skip) func112 (by kernel_rfl) fun p q=>⟨vf7,(n124n_p ..).p.map _,by rw [wfk];kernel_rfl,vaa (ids:=[15000007,0,15000019,4,2]) (by kernel_rfl) (by kernel_rfl) ⟨vxx,⟨ww9,⟨vxz,⟨wyi,⟨wrp,trivial⟩⟩⟩⟩⟩⟩
def G48:Glob:=G47.add 112 wrs
theorem G48_ok:GlobOk prog G48:=G47_ok.add ⟨f112,func112,by kernel_rfl,by kernel_rfl⟩ w6e
def v85:q85T→List AV:=fun x=>[.bp 0 0,.bp 1 0,.bp 2 0,.i x.1,.i x.2.1]
def wbx:q85T→St:=fun x=>let xh:=x.2.2.2.2;let xi:=xh.2.2.2.2;[.box [.lst tVersion x.2.2.1,.lst tTxn x.2.2.2.1,.lst tTxn xh.1,.i xh.2.1,.i xh.2.2.1],.box [.nilS,.nilS,.nilS,.i xh.2.2.2.1,.i xi.1],.box [.own 3,.own 4,.own 5,.i xi.2.1,.i xi.2.2.1],.arr tVersion xi.2.2.2.1,.arr tTxn xi.2.2.2.2.1,.arr tTxn xi.2.2.2.2.2]
def v17:Nat→Option LoopSpec
 |0=>some (lpS [2,4,5,6,7] [] [.bp 0 0,.bp 1 0,.bp 2 0,.i,.i] [.box [.lst tVersion,.lst tTxn,.lst tTxn,.i,.i],.box [.nilS,.nilS,.nilS,.i,.i],.box [.own 3,.own 4,.own 5,.i,.i],.arr tVersion,.arr tTxn,.arr tTxn] vjj (fun p q=>(p.2.2.2.1,p.2.2.2.2.1,q.1.1,q.1.2.1,q.1.2.2.1,q.1.2.2.2.1,q.1.2.2.2.2.1,q.2.1.2.2.2.1,q.2.1.2.2.2.2.1,q.2.2.1.2.2.2.1,q.2.2.1.2.2.2.2.1,q.2.2.2.1,q.2.2.2.2.1,q.2.2.2.2.2.1)) (fun k=>(onE (exZ (.exit 0) v85 wbx) k)))
 |1000008=>some ⟨[4,6,7],[],fun _ _ _=>none⟩
 |_=>none
theorem wvc:LpAt G48.shallow ⟨0,47,v17⟩ f45 0:=
 val rfl (fun x=>(n122n_bp0 x).p) v85 wbx (exZ (.exit 0) v85 wbx) (fun _ _=>⟨rfl,rfl⟩) (fun z=>by(intro h;cases h)) (fun _ _=>rfl) (fun x=>by kernel_rfl)
theorem w9i:vad prog 45 wxj:=
 vap G48_ok.shallow follows (f45.body.getD .skip) func45 (by kernel_rfl) fun p q=>⟨v17,(n122n_p ..).p.map _,by rw [we5];kernel_rfl,vaa (ids:=[0]) (by kernel_rfl) (by kernel_rfl) ⟨wvc,trivial⟩⟩
def G49:Glob:=G48.add 45 wxj
theorem G49_ok:GlobOk prog G49:=G48_ok.add ⟨f45,func45,by kernel_rfl,by kernel_rfl⟩ w9i
def vzh:q46T→List AV:=fun x=>[.bp 0 0,.bp 1 0,.bp 2 0,.bool x.1]
def v2m:q46T→St:=fun x=>let xh:=x.2.2.2.2;let xi:=xh.2.2.2.2;let xj:=xi.2.2.2.2;let xk:=xj.2.2.2.2;let xl:=xk.2.2.2.2;[.box [.lst tVersion x.2.1,.lst tTxn x.2.2.1,.lst tTxn x.2.2.2.1,.i xh.1,.i xh.2.1],.box [.i xh.2.2.1,.i xh.2.2.2.1,.i xi.1,.i xi.2.1,.i xi.2.2.1,.lst tRange xi.2.2.2.1,.lst tWrite xj.1,.bool xj.2.1,.str xj.2.2.1,.str xj.2.2.2.1,.bool xk.1,.lst tVersion xk.2.1,.lst tTxn xk.2.2.1,.lst tTxn xk.2.2.2.1,.i xl.1,.i xl.2.1],.box [.own 3,.own 4,.own 5,.i xl.2.2.1,.i xl.2.2.2.1],.arr tVersion xl.2.2.2.2.1,.dep tTxn xl.2.2.2.2.2.1 0 [],.dep tTxn xl.2.2.2.2.2.2 0 []]
def vni:q46T→Out×List AV×St:=fun z=>let zh:=z.2.2.2.2;let zi:=zh.2.2.2.2;let zj:=zi.2.2.2.2;let zk:=zj.2.2.2.2;let zl:=zk.2.2.2.2;(.ret,[.bp 0 0,.bp 1 0,.bp 2 0,.bool z.1],[.box [.lst tVersion z.2.1,.lst tTxn z.2.2.1,.lst tTxn z.2.2.2.1,.i zh.1,.i zh.2.1],.box [.i zh.2.2.1,.i zh.2.2.2.1,.i zi.1,.i zi.2.1,.i zi.2.2.1,.lst tRange zi.2.2.2.1,.lst tWrite zj.1,.bool zj.2.1,.str zj.2.2.1,.str zj.2.2.2.1,.bool zk.1,.lst tVersion zk.2.1,.lst tTxn zk.2.2.1,.lst tTxn zk.2.2.2.1,.i zl.1,.i zl.2.1],.box [.own 3,.own 4,.own 5,.i zl.2.2.1,.i zl.2.2.2.1],.arr tVersion zl.2.2.2.2.1,.arr tTxn zl.2.2.2.2.2.1,.arr tTxn zl.2.2.2.2.2.2])
def v1a:Nat→Option LoopSpec
 |5000003=>some (ctS [2,3,4,5] [none,none,none,none,none,none,none,none,none,none,none,none,none,none,none,none,none,none,none,none,none,none,none,none,none,some tVersion,some tTxn,some tTxn] [.bp 0 0,.bp 1 0,.bp 2 0,.bool] [.box [.lst tVersion,.lst tTxn,.lst tTxn,.i,.i],.box [.i,.i,.i,.i,.i,.lst tRange,.lst tWrite,.bool,.str,.str,.bool,.lst tVersion,.lst tTxn,.lst tTxn,.i,.i],.box [.own 3,.own 4,.own 5,.i,.i],.arr tVersion,.dep tTxn 0,.dep tTxn 0] vet (fun p q=>(p.2.2.2.1,q.1.1,q.1.2.1,q.1.2.2.1,q.1.2.2.2.1,q.1.2.2.2.2.1,q.2.1.1,q.2.1.2.1,q.2.1.2.2.1,q.2.1.2.2.2.1,q.2.1.2.2.2.2.1,q.2.1.2.2.2.2.2.1,q.2.1.2.2.2.2.2.2.1,q.2.1.2.2.2.2.2.2.2.1,q.2.1.2.2.2.2.2.2.2.2.1,q.2.1.2.2.2.2.2.2.2.2.2.1,q.2.1.2.2.2.2.2.2.2.2.2.2.1,q.2.1.2.2.2.2.2.2.2.2.2.2.2.1,q.2.1.2.2.2.2.2.2.2.2.2.2.2.2.1,q.2.1.2.2.2.2.2.2.2.2.2.2.2.2.2.1,q.2.1.2.2.2.2.2.2.2.2.2.2.2.2.2.2.1,q.2.1.2.2.2.2.2.2.2.2.2.2.2.2.2.2.2.1,q.2.2.1.2.2.2.1,q.2.2.1.2.2.2.2.1,q.2.2.2.1,q.2.2.2.2.1,q.2.2.2.2.2.1)) (fun k=>(onE vni k)))
 |_=>none
theorem vy2:CtAt G49.shallow ⟨0,38,v1a⟩ f10 5000003:=
 vby rfl (fun x=>(n116n_jp5000003 x).p) vzh v2m vni (fun _ _=>⟨rfl,rfl⟩) (fun _ _=>rfl) (fun x=>by kernel_rfl)
theorem w7b:vad prog 10 wve:=
 vap G49_ok.shallow follows (f10.body.getD .skip) func10 (by kernel_rfl) fun p q=>⟨v1a,(n116n_p ..).p.map _,by rw [wfg];kernel_rfl,vaa (ids:=[5000003]) (by kernel_rfl) (by kernel_rfl) ⟨vy2,trivial⟩⟩
def G50:Glob:=G49.add 10 wve
theorem G50_ok:GlobOk prog G50:=G49_ok.add ⟨f10,func10,by kernel_rfl,by kernel_rfl⟩ w7b
def wpn:Nat→Option LoopSpec
 |_=>none
theorem xau:vad prog 114 w6d:=
 vap G50_ok follows (f114.body.getD .skip) func114 (by kernel_rfl) fun p q=>⟨wpn,(n47n_p ..).p.map _,by rw [wtx];kernel_rfl,vaa (ids:=[]) (by kernel_rfl) (by kernel_rfl) trivial⟩
def G51:Glob:=G50.add 114 w6d
theorem G51_ok:GlobOk prog G51:=G50_ok.add ⟨f114,func114,by kernel_rfl,by kernel_rfl⟩ xau
def vy0:(ByteArray×Bool×Int)→List AV:=fun x=>[.str x.1,.bool x.2.1,.i x.2.2]
def v3j:(ByteArray×Bool×Int)→St:=fun x=>[]
def v6g:Nat→Option LoopSpec
 |0=>some (lpS [0,2,3] [] [.str,.bool,.i] [] vp5 (fun p q=>(p.1,p.2.1,p.2.2.1)) (fun k=>(Sum.elim (onE (exZ .ret vy0 v3j) k) (onE (exZ (.exit 0) vy0 v3j) k))))
 |_=>none
theorem w07:LpAt G51 ⟨0,23,v6g⟩ f82 0:=
 val rfl (fun x=>(n11n_bp0 x).p) vy0 v3j (Sum.elim ((exZ .ret vy0 v3j)) ((exZ (.exit 0) vy0 v3j))) (fun _ _=>⟨rfl,rfl⟩) (fun z=>by rcases z with z|z<;>(intro h;cases h)) (fun k z=>by rcases z with z|z<;>rfl) (fun x=>by kernel_rfl)
theorem xb8:vad prog 82 w5l:=
 vap G51_ok follows (f82.body.getD .skip) func82 (by kernel_rfl) fun p q=>⟨v6g,(n11n_p _).p.map _,by rw [wvo];kernel_rfl,vaa (ids:=[0]) (by kernel_rfl) (by kernel_rfl) ⟨w07,trivial⟩⟩
def G52:Glob:=G51.add 82 w5l
theorem G52_ok:GlobOk prog G52:=G51_ok.add ⟨f82,func82,by kernel_rfl,by kernel_rfl⟩ xb8
def wo9:Nat→Option LoopSpec
 |_=>none
theorem xcn:vad prog 235 w3w:=
 vap G52_ok follows (f235.body.getD .skip) func235 (by kernel_rfl) fun p q=>⟨wo9,(n03n_p _).p.map _,by rw [ww6];kernel_rfl,vaa (ids:=[]) (by kernel_rfl) (by kernel_rfl) trivial⟩
def G53:Glob:=G52.add 235 w3w
theorem G53_ok:GlobOk prog G53:=G52_ok.add ⟨f235,func235,by kernel_rfl,by kernel_rfl⟩ xcn
def wo1:Nat→Option LoopSpec
 |_=>none
theorem xcp:vad prog 214 w4y:=
 vap G53_ok follows (f214.body.getD .skip) func214 (by kernel_rfl) fun p q=>⟨wo1,(n01n_p ..).p.map _,by rw [wq6];kernel_rfl,vaa (ids:=[]) (by kernel_rfl) (by kernel_rfl) trivial⟩
def G54:Glob:=G53.add 214 w4y
theorem G54_ok:GlobOk prog G54:=G53_ok.add ⟨f214,func214,by kernel_rfl,by kernel_rfl⟩ xcp
def wn0:Nat→Option LoopSpec
 |_=>none
theorem xbf:vad prog 236 w48:=
 vap G54_ok follows (f236.body.getD .skip) func236 (by kernel_rfl) fun p q=>⟨wn0,(n02n_p _).p.map _,by rw [wt0];kernel_rfl,vaa (ids:=[]) (by kernel_rfl) (by kernel_rfl) trivial⟩
def G55:Glob:=G54.add 236 w48
theorem G55_ok:GlobOk prog G55:=G54_ok.add ⟨f236,func236,by kernel_rfl,by kernel_rfl⟩ xbf
def wn8:Nat→Option LoopSpec
 |_=>none
theorem xb0:vad prog 215 w42:=
 vap G55_ok follows (f215.body.getD .skip) func215 (by kernel_rfl) fun p q=>⟨wn8,(n00n_p ..).p.map _,by rw [wxp];kernel_rfl,vaa (ids:=[]) (by kernel_rfl) (by kernel_rfl) trivial⟩
def G56:Glob:=G55.add 215 w42
theorem G56_ok:GlobOk prog G56:=G55_ok.add ⟨f215,func215,by kernel_rfl,by kernel_rfl⟩ xb0
def wpy:Nat→Option LoopSpec
 |_=>none
theorem xa1:vad prog 179 w4t:=
 vap G56_ok follows (f179.body.getD .skip) func179 (by kernel_rfl) fun p q=>⟨wpy,(n34n_p ..).p.map _,by rw [wtd];kernel_rfl,vaa (ids:=[]) (by kernel_rfl) (by kernel_rfl) trivial⟩
def G57:Glob:=G56.add 179 w4t
theorem G57_ok:GlobOk prog G57:=G56_ok.add ⟨f179,func179,by kernel_rfl,by kernel_rfl⟩ xa1
def vy5:q24T→List AV:=fun x=>[.lst tVersion x.1,.bool x.2.1,.lst tVersion x.2.2.1,.i x.2.2.2.1,.i x.2.2.2.2]
def v35:q24T→St:=fun x=>[]
def v5i:Nat→Option LoopSpec
 |0=>some (lpS [0,2,5,6,7] [] [.lst tVersion,.bool,.lst tVersion,.i,.i] [] vn9 (fun p q=>(p.1,p.2.1,p.2.2.1,p.2.2.2.1,p.2.2.2.2.1)) (fun k=>(Sum.elim (onE (exZ .ret vy5 v35) k) (onE (exZ (.exit 0) vy5 v35) k))))
 |2000004=>some ⟨[0,2,5,6,8,10,12,14,16,18,20,22,24,26,28,30,32,34,36,38,40,42,45,46,48,50,52,54,56,58,60,62,64,66,68,71,72,74,76],[],fun _ _ _=>none⟩
 |_=>none
theorem w10:LpAt G57 ⟨0,55,v5i⟩ f113 0:=
 val rfl (fun x=>(n31n_bp0 x).p) vy5 v35 (Sum.elim ((exZ .ret vy5 v35)) ((exZ (.exit 0) vy5 v35))) (fun _ _=>⟨rfl,rfl⟩) (fun z=>by rcases z with z|z<;>(intro h;cases h)) (fun k z=>by rcases z with z|z<;>rfl) (fun x=>by kernel_rfl)
theorem xbs:vad prog 113 w4b:=
 vap G57_ok follows (f113.body.getD .skip) func113 (by kernel_rfl) fun p q=>⟨v5i,(n31n_p _).p.map _,by rw [wvm];kernel_rfl,vaa (ids:=[0]) (by kernel_rfl) (by kernel_rfl) ⟨w10,trivial⟩⟩
def G58:Glob:=G57.add 113 w4b
theorem G58_ok:GlobOk prog G58:=G57_ok.add ⟨f113,func113,by kernel_rfl,by kernel_rfl⟩ xbs
def wof:Nat→Option LoopSpec
 |_=>none
theorem xa8:vad prog 165 w5v:=
 vap G58_ok follows (f165.body.getD .skip) func165 (by kernel_rfl) fun p q=>⟨wof,(n19n_p _).p.map _,by rw [wqw];kernel_rfl,vaa (ids:=[]) (by kernel_rfl) (by kernel_rfl) trivial⟩
def G59:Glob:=G58.add 165 w5v
theorem G59_ok:GlobOk prog G59:=G58_ok.add ⟨f165,func165,by kernel_rfl,by kernel_rfl⟩ xa8
def wps:Nat→Option LoopSpec
 |_=>none
theorem xbu:vad prog 85 w52:=
 vap G59_ok follows (f85.body.getD .skip) func85 (by kernel_rfl) fun p q=>⟨wps,(n32n_p _).p.map _,by rw [wvt];kernel_rfl,vaa (ids:=[]) (by kernel_rfl) (by kernel_rfl) trivial⟩
def G60:Glob:=G59.add 85 w52
theorem G60_ok:GlobOk prog G60:=G59_ok.add ⟨f85,func85,by kernel_rfl,by kernel_rfl⟩ xbu
def v2t:q38T→List AV:=fun x=>[.lst tWrite x.1,.bool x.2.1,.lst tWrite x.2.2.1,.i x.2.2.2.1,.i x.2.2.2.2]
def v2i:q38T→St:=fun x=>[]
def v6c:Nat→Option LoopSpec
 |0=>some (lpS [0,2,5,6,7] [] [.lst tWrite,.bool,.lst tWrite,.i,.i] [] vox (fun p q=>(p.1,p.2.1,p.2.2.1,p.2.2.2.1,p.2.2.2.2.1)) (fun k=>(Sum.elim (onE (exZ .ret v2t v2i) k) (onE (exZ (.exit 0) v2t v2i) k))))
 |2000004=>some ⟨[0,3,4,6,8,10,12,14,16,18,20,22,24,26,28,30,32,34],[],fun _ _ _=>none⟩
 |_=>none
theorem w1e:LpAt G60 ⟨0,34,v6c⟩ f166 0:=
 val rfl (fun x=>(n33n_bp0 x).p) v2t v2i (Sum.elim ((exZ .ret v2t v2i)) ((exZ (.exit 0) v2t v2i))) (fun _ _=>⟨rfl,rfl⟩) (fun z=>by rcases z with z|z<;>(intro h;cases h)) (fun k z=>by rcases z with z|z<;>rfl) (fun x=>by kernel_rfl)
theorem xab:vad prog 166 w38:=
 vap G60_ok follows (f166.body.getD .skip) func166 (by kernel_rfl) fun p q=>⟨v6c,(n33n_p _).p.map _,by rw [wyq];kernel_rfl,vaa (ids:=[0]) (by kernel_rfl) (by kernel_rfl) ⟨w1e,trivial⟩⟩
def G61:Glob:=G60.add 166 w38
theorem G61_ok:GlobOk prog G61:=G60_ok.add ⟨f166,func166,by kernel_rfl,by kernel_rfl⟩ xab
def vkt:q62T→List AV:=fun x=>[.bp 0 0,.bool x.1]
def vk3:q62T→St:=fun x=>let xh:=x.2.2.2.2;[.box [.i x.2.1,.i x.2.2.1,.i x.2.2.2.1,.i xh.1,.lst tRange xh.2.1,.lst tWrite xh.2.2.1,.bool xh.2.2.2.1,.str xh.2.2.2.2]]
def vk8:q62T→List AV:=fun x=>[.bp 0 0,.bool x.1]
def vlh:q62T→St:=fun x=>let xh:=x.2.2.2.2;[.box [.i x.2.1,.i x.2.2.1,.i x.2.2.2.1,.i xh.1,.lst tRange xh.2.1,.lst tWrite xh.2.2.1,.bool xh.2.2.2.1,.str xh.2.2.2.2]]
def v1d:q43T→List AV:=fun x=>[.bp 0 0,.bool x.1,.lst tRange x.2.1,.i x.2.2.1,.i x.2.2.2.1]
def v12:q43T→St:=fun x=>let xh:=x.2.2.2.2;[.box [.i xh.1,.i xh.2.1,.i xh.2.2.1,.i xh.2.2.2.1,.lst tRange xh.2.2.2.2.1,.lst tWrite xh.2.2.2.2.2.1,.bool xh.2.2.2.2.2.2.1,.str xh.2.2.2.2.2.2.2]]
def vq1:Nat→Option LoopSpec
 |5000011=>some (ctS [1,2] [] [.bp 0 0,.bool] [.box [.i,.i,.i,.i,.lst tRange,.lst tWrite,.bool,.str]] vcf (fun p q=>(p.2.1,q.1.1,q.1.2.1,q.1.2.2.1,q.1.2.2.2.1,q.1.2.2.2.2.1,q.1.2.2.2.2.2.1,q.1.2.2.2.2.2.2.1,q.1.2.2.2.2.2.2.2.1)) (fun k=>(onE (exZ .ret vkt vk3) k)))
 |5000009=>some (ctS [1,2] [] [.bp 0 0,.bool] [.box [.i,.i,.i,.i,.lst tRange,.lst tWrite,.bool,.str]] vdl (fun p q=>(p.2.1,q.1.1,q.1.2.1,q.1.2.2.1,q.1.2.2.2.1,q.1.2.2.2.2.1,q.1.2.2.2.2.2.1,q.1.2.2.2.2.2.2.1,q.1.2.2.2.2.2.2.2.1)) (fun k=>(onE (exZ .ret vk8 vlh) k)))
 |0=>some (lpS [1,2,6,7,8] [] [.bp 0 0,.bool,.lst tRange,.i,.i] [.box [.i,.i,.i,.i,.lst tRange,.lst tWrite,.bool,.str]] vof (fun p q=>(p.2.1,p.2.2.1,p.2.2.2.1,p.2.2.2.2.1,q.1.1,q.1.2.1,q.1.2.2.1,q.1.2.2.2.1,q.1.2.2.2.2.1,q.1.2.2.2.2.2.1,q.1.2.2.2.2.2.2.1,q.1.2.2.2.2.2.2.2.1)) (fun k=>(Sum.elim (onE (exZ .ret v1d v12) k) (onE (exZ (.exit 0) v1d v12) k))))
 |_=>none
theorem v48:CtAt G61 ⟨0,93,vq1⟩ f95 5000011:=
 vby rfl (fun x=>(n30n_jp5000011 x).p) vkt vk3 (exZ .ret vkt vk3) (fun _ _=>⟨rfl,rfl⟩) (fun _ _=>rfl) (fun x=>by kernel_rfl)
theorem v4g:CtAt G61 ⟨0,93,vq1⟩ f95 5000009:=
 vby rfl (fun x=>(n30n_jp5000009 x).p) vk8 vlh (exZ .ret vk8 vlh) (fun _ _=>⟨rfl,rfl⟩) (fun _ _=>rfl) (fun x=>by kernel_rfl)
theorem w0h:LpAt G61 ⟨0,93,vq1⟩ f95 0:=
 val rfl (fun x=>(n30n_bp0 x).p) v1d v12 (Sum.elim ((exZ .ret v1d v12)) ((exZ (.exit 0) v1d v12))) (fun _ _=>⟨rfl,rfl⟩) (fun z=>by rcases z with z|z<;>(intro h;cases h)) (fun k z=>by rcases z with z|z<;>rfl) (fun x=>by kernel_rfl)
theorem w91:vad prog 95 w41:=
 vap G61_ok follows (f95.body.getD .skip) func95 (by kernel_rfl) fun p q=>⟨vq1,(n30n_p _).p.map _,by rw [wut];kernel_rfl,vaa (ids:=[5000011,5000009,0]) (by kernel_rfl) (by kernel_rfl) ⟨v48,⟨v4g,⟨w0h,trivial⟩⟩⟩⟩
def G62:Glob:=G61.add 95 w41
theorem G62_ok:GlobOk prog G62:=G61_ok.add ⟨f95,func95,by kernel_rfl,by kernel_rfl⟩ w91
def woq:Nat→Option LoopSpec
 |_=>none
theorem xbx:vad prog 115 w4s:=
 vap G62_ok follows (f115.body.getD .skip) func115 (by kernel_rfl) fun p q=>⟨woq,(n42n_p _).p.map _,by rw [wrb];kernel_rfl,vaa (ids:=[]) (by kernel_rfl) (by kernel_rfl) trivial⟩
def G63:Glob:=G62.add 115 w4s
theorem G63_ok:GlobOk prog G63:=G62_ok.add ⟨f115,func115,by kernel_rfl,by kernel_rfl⟩ xbx
def wns:Nat→Option LoopSpec
 |_=>none
theorem xay:vad prog 116 w5d:=
 vap G63_ok follows (f116.body.getD .skip) func116 (by kernel_rfl) fun p q=>⟨wns,(n43n_p _).p.map _,by rw [wtl];kernel_rfl,vaa (ids:=[]) (by kernel_rfl) (by kernel_rfl) trivial⟩
def G64:Glob:=G63.add 116 w5d
theorem G64_ok:GlobOk prog G64:=G63_ok.add ⟨f116,func116,by kernel_rfl,by kernel_rfl⟩ xay
def wob:Nat→Option LoopSpec
 |3000000=>some ⟨[],[some tTxn],fun _ _ _=>none⟩
 |_=>none
theorem vvt:vad prog 164 vlu:=
 vap G64_ok follows (f164.body.getD .skip) func164 (by kernel_rfl) fun p q=>⟨wob,(n98n_p _).p.map2 _ _,by rw [wti];kernel_rfl,vaa (ids:=[]) (by kernel_rfl) (by kernel_rfl) trivial⟩
def G65:Glob:=G64.add 164 vlu
theorem G65_ok:GlobOk prog G65:=G64_ok.add ⟨f164,func164,by kernel_rfl,by kernel_rfl⟩ vvt
def wgb:q0T→List AV:=fun x=>[.lst (.slice tTxn) x.1,.i x.2.1,.lst (.slice tTxn) x.2.2.1,.i x.2.2.2.1,.i x.2.2.2.2]
def wif:q0T→St:=fun x=>[]
def vhs:Nat→Option LoopSpec
 |0=>some (lpS [0,3,9,10,11] [] [.lst (.slice tTxn),.i,.lst (.slice tTxn),.i,.i] [] vp8 (fun p q=>(p.1,p.2.1,p.2.2.1,p.2.2.2.1,p.2.2.2.2.1)) (fun k=>(onE (exZ (.exit 0) wgb wif) k)))
 |2=>some ⟨[6,25,26,27],[],fun vals st k=>vag [.own 0,.lst (.slice tTxn),.i,.i] [.arr tTxn] vals st (fun p q=>vab ve4 Fuel (.inl (p.2.1,p.2.2.1,p.2.2.2.1,q.1)) (Sum.elim (fun z=>k (.exit 2) [.own 0,.lst (.slice tTxn) z.1,.i z.2.1,.i z.2.2.1] [.arr tTxn z.2.2.2]) (fun z=>k (.exit 2) [.own 0,.lst (.slice tTxn) z.1,.i z.2.1,.i z.2.2.1] [.dep tTxn z.2.2.2 0 []])))
   (vag [.own 0,.lst (.slice tTxn),.i,.i] [.dep tTxn 0] vals st (fun p q=>vab ve4 Fuel (.inr (p.2.1,p.2.2.1,p.2.2.2.1,q.1)) (Sum.elim (fun z=>k (.exit 2) [.own 0,.lst (.slice tTxn) z.1,.i z.2.1,.i z.2.2.1] [.arr tTxn z.2.2.2]) (fun z=>k (.exit 2) [.own 0,.lst (.slice tTxn) z.1,.i z.2.1,.i z.2.2.1] [.dep tTxn z.2.2.2 0 []])))
   (none))⟩
 |_=>none
theorem w24:LpAt G65 ⟨0,36,vhs⟩ f94 0:=
 val rfl (fun x=>(n92n_bp0 x).p) wgb wif (exZ (.exit 0) wgb wif) (fun _ _=>⟨rfl,rfl⟩) (fun z=>by(intro h;cases h)) (fun _ _=>rfl) (fun x=>by kernel_rfl)
def v81:(q1T⊕q1T)→List AV:=(Sum.elim (fun x=>[.own 0,.lst (.slice tTxn) x.1,.i x.2.1,.i x.2.2.1]) (fun x=>[.own 0,.lst (.slice tTxn) x.1,.i x.2.1,.i x.2.2.1]))
def v8w:(q1T⊕q1T)→St:=(Sum.elim (fun x=>[.arr tTxn x.2.2.2]) (fun x=>[.dep tTxn x.2.2.2 0 []]))
def v0w:(q1T⊕q1T)→Out×List AV×St:=(Sum.elim (fun z=>((.exit 2),[.own 0,.lst (.slice tTxn) z.1,.i z.2.1,.i z.2.2.1],[.arr tTxn z.2.2.2])) (fun z=>((.exit 2),[.own 0,.lst (.slice tTxn) z.1,.i z.2.1,.i z.2.2.1],[.dep tTxn z.2.2.2 0 []])))
theorem wkb (x:(q1T⊕q1T)):exec G65 ⟨0,36,vhs⟩ (vex f94 2) (vq6 ⟨0,36,vhs⟩ [6,25,26,27] []) (vhe (vf6 36) [6,25,26,27] (v81 x)) (v8w x)=ve4 x (Sum.elim (fun y=>some ⟨.norm,v81 y,v8w y⟩) fun z=>some ⟨(v0w z).1,(v0w z).2.1,(v0w z).2.2⟩):=by
 rcases x with x|x<;>kernel_rfl
theorem w1j:∀sp,(vhs 2)=some sp→v0x G65 ⟨0,36,vhs⟩ sp (vex f94 2):=by
 intro sp hsp vals st k r h
 cases hsp
 dsimp only at h
 rcases vcd h with⟨p,q,rfl,rfl,h⟩|h
 ·exact vee (fun x=>(n92n_bp2 x).p) v81 v8w v0w (fun z=>by rcases z with z|z<;>(intro h;cases h)) wkb Fuel (.inl (p.2.1,p.2.2.1,p.2.2.2.1,q.1)) _ k r (fun z=>by rcases z with z|z<;>rfl) h
 rcases vcd h with⟨p,q,rfl,rfl,h⟩|h
 ·exact vee (fun x=>(n92n_bp2 x).p) v81 v8w v0w (fun z=>by rcases z with z|z<;>(intro h;cases h)) wkb Fuel (.inr (p.2.1,p.2.2.1,p.2.2.2.1,q.1)) _ k r (fun z=>by rcases z with z|z<;>rfl) h
 cases h
theorem xa0:vad prog 94 w51:=
 vap G65_ok follows (f94.body.getD .skip) func94 (by kernel_rfl) fun p q=>⟨vhs,(n92n_p _).p.map2 _ _,by rw [wxf];kernel_rfl,vaa (ids:=[0,2]) (by kernel_rfl) (by kernel_rfl) ⟨w24,⟨w1j,trivial⟩⟩⟩
def G66:Glob:=G65.add 94 w51
theorem G66_ok:GlobOk prog G66:=G65_ok.add ⟨f94,func94,by kernel_rfl,by kernel_rfl⟩ xa0
def wno:Nat→Option LoopSpec
 |_=>none
theorem w9o:vad prog 163 w49:=
 vap G66_ok follows (f163.body.getD .skip) func163 (by kernel_rfl) fun p q=>⟨wno,(n41n_p ..).p.map _,by rw [wvu];kernel_rfl,vaa (ids:=[]) (by kernel_rfl) (by kernel_rfl) trivial⟩
def G67:Glob:=G66.add 163 w49
theorem G67_ok:GlobOk prog G67:=G66_ok.add ⟨f163,func163,by kernel_rfl,by kernel_rfl⟩ w9o
def wpb:Nat→Option LoopSpec
 |_=>none
theorem xa7:vad prog 219 w4w:=
 vap G67_ok follows (f219.body.getD .skip) func219 (by kernel_rfl) fun p q=>⟨wpb,(n07n_p ..).p.map _,by rw [wrr];kernel_rfl,vaa (ids:=[]) (by kernel_rfl) (by kernel_rfl) trivial⟩
def G68:Glob:=G67.add 219 w4w
theorem G68_ok:GlobOk prog G68:=G67_ok.add ⟨f219,func219,by kernel_rfl,by kernel_rfl⟩ xa7
def wny:Nat→Option LoopSpec
 |_=>none
theorem xcy:vad prog 185 w5x:=
 vap G68_ok follows (f185.body.getD .skip) func185 (by kernel_rfl) fun p q=>⟨wny,(n06n_p ..).p.map _,by rw [wuv];kernel_rfl,vaa (ids:=[]) (by kernel_rfl) (by kernel_rfl) trivial⟩
def G69:Glob:=G68.add 185 w5x
theorem G69_ok:GlobOk prog G69:=G68_ok.add ⟨f185,func185,by kernel_rfl,by kernel_rfl⟩ xcy
def wpu:Nat→Option LoopSpec
 |_=>none
theorem xcz:vad prog 220 w56:=
 vap G69_ok follows (f220.body.getD .skip) func220 (by kernel_rfl) fun p q=>⟨wpu,(n10n_p ..).p.map _,by rw [wwv];kernel_rfl,vaa (ids:=[]) (by kernel_rfl) (by kernel_rfl) trivial⟩
def G70:Glob:=G69.add 220 w56
theorem G70_ok:GlobOk prog G70:=G69_ok.add ⟨f220,func220,by kernel_rfl,by kernel_rfl⟩ xcz
def v1l:q36T→List AV:=fun x=>[.lst tWrite x.1,.bool x.2.1,.bp 0 0,.lst tRange x.2.2.1,.i x.2.2.2.1,.i x.2.2.2.2.1,.lst tWrite x.2.2.2.2.2.1,.i x.2.2.2.2.2.2.1,.i x.2.2.2.2.2.2.2.1]
def vzl:q36T→St:=fun x=>[.box [.str x.2.2.2.2.2.2.2.2.1,.str x.2.2.2.2.2.2.2.2.2]]
def v0t:q37T→List AV:=fun x=>[.lst tWrite x.1,.bool x.2.1,.lst tRange x.2.2.1,.i x.2.2.2.1,.i x.2.2.2.2]
def v3u:q37T→St:=fun x=>[]
def vwt:Nat→Option LoopSpec
 |2=>some (lpS [1,4,6,9,10,11,15,16,17] [] [.lst tWrite,.bool,.bp 0 0,.lst tRange,.i,.i,.lst tWrite,.i,.i] [.box [.str,.str]] voj (fun p q=>(p.1,p.2.1,p.2.2.2.1,p.2.2.2.2.1,p.2.2.2.2.2.1,p.2.2.2.2.2.2.1,p.2.2.2.2.2.2.2.1,p.2.2.2.2.2.2.2.2.1,q.1.1,q.1.2.1)) (fun k=>(Sum.elim (onE (exZ .ret v1l vzl) k) (onE (exZ (.exit 2) v1l vzl) k))))
 |0=>some (lpS [1,4,9,10,11] [] [.lst tWrite,.bool,.lst tRange,.i,.i] [] vqi (fun p q=>(p.1,p.2.1,p.2.2.1,p.2.2.2.1,p.2.2.2.2.1)) (fun k=>(Sum.elim (onE (exZ (.exit 0) v0t v3u) k) (onE (exZ .ret v0t v3u) k))))
 |_=>none
theorem wzf:LpAt G70 ⟨0,27,vwt⟩ f186 2:=
 val rfl (fun x=>(n27n_bp2 x).p) v1l vzl (Sum.elim ((exZ .ret v1l vzl)) ((exZ (.exit 2) v1l vzl))) (fun _ _=>⟨rfl,rfl⟩) (fun z=>by rcases z with z|z<;>(intro h;cases h)) (fun k z=>by rcases z with z|z<;>rfl) (fun x=>by kernel_rfl)
theorem w1p:LpAt G70 ⟨0,27,vwt⟩ f186 0:=
 val rfl (fun x=>(n27n_bp0 x).p) v0t v3u (Sum.elim ((exZ (.exit 0) v0t v3u)) ((exZ .ret v0t v3u))) (fun _ _=>⟨rfl,rfl⟩) (fun z=>by rcases z with z|z<;>(intro h;cases h)) (fun k z=>by rcases z with z|z<;>rfl) (fun x=>by kernel_rfl)
theorem xbb:vad prog 186 w4i:=
 vap G70_ok follows (f186.body.getD .skip) func186 (by kernel_rfl) fun p q=>⟨vwt,(n27n_p ..).p.map _,by rw [wx1];kernel_rfl,vaa (ids:=[2,0]) (by kernel_rfl) (by kernel_rfl) ⟨wzf,⟨w1p,trivial⟩⟩⟩
def G71:Glob:=G70.add 186 w4i
theorem G71_ok:GlobOk prog G71:=G70_ok.add ⟨f186,func186,by kernel_rfl,by kernel_rfl⟩ xbb
def wpm:Nat→Option LoopSpec
 |_=>none
theorem xcd:vad prog 123 w5h:=
 vap G71_ok follows (f123.body.getD .skip) func123 (by kernel_rfl) fun p q=>⟨wpm,(n04n_p ..).p.map _,by rw [wxh];kernel_rfl,vaa (ids:=[]) (by kernel_rfl) (by kernel_rfl) trivial⟩
def G72:Glob:=G71.add 123 w5h
theorem G72_ok:GlobOk prog G72:=G71_ok.add ⟨f123,func123,by kernel_rfl,by kernel_rfl⟩ xcd
def won:Nat→Option LoopSpec
 |_=>none
theorem xbl:vad prog 170 w34:=
 vap G72_ok follows (f170.body.getD .skip) func170 (by kernel_rfl) fun p q=>⟨won,(n15n_p ..).p.map _,by rw [wyb];kernel_rfl,vaa (ids:=[]) (by kernel_rfl) (by kernel_rfl) trivial⟩
def G73:Glob:=G72.add 170 w34
theorem G73_ok:GlobOk prog G73:=G72_ok.add ⟨f170,func170,by kernel_rfl,by kernel_rfl⟩ xbl
def wn7:Nat→Option LoopSpec
 |_=>none
theorem xam:vad prog 122 w4h:=
 vap G73_ok follows (f122.body.getD .skip) func122 (by kernel_rfl) fun p q=>⟨wn7,(n24n_p ..).p.map _,by rw [wur];kernel_rfl,vaa (ids:=[]) (by kernel_rfl) (by kernel_rfl) trivial⟩
def G74:Glob:=G73.add 122 w4h
theorem G74_ok:GlobOk prog G74:=G73_ok.add ⟨f122,func122,by kernel_rfl,by kernel_rfl⟩ xam
def wnk:Nat→Option LoopSpec
 |_=>none
theorem xag:vad prog 100 w4q:=
 vap G74_ok follows (f100.body.getD .skip) func100 (by kernel_rfl) fun p q=>⟨wnk,(n21n_p ..).p.map _,by rw [wxt];kernel_rfl,vaa (ids:=[]) (by kernel_rfl) (by kernel_rfl) trivial⟩
def G75:Glob:=G74.add 100 w4q
theorem G75_ok:GlobOk prog G75:=G74_ok.add ⟨f100,func100,by kernel_rfl,by kernel_rfl⟩ xag
def wnj:Nat→Option LoopSpec
 |_=>none
theorem xch:vad prog 102 w5z:=
 vap G75_ok follows (f102.body.getD .skip) func102 (by kernel_rfl) fun p q=>⟨wnj,(n09n_p ..).p.map _,by rw [wvv];kernel_rfl,vaa (ids:=[]) (by kernel_rfl) (by kernel_rfl) trivial⟩
def G76:Glob:=G75.add 102 w5z
theorem G76_ok:GlobOk prog G76:=G75_ok.add ⟨f102,func102,by kernel_rfl,by kernel_rfl⟩ xch
def wpe:Nat→Option LoopSpec
 |_=>none
theorem xcu:vad prog 110 w4a:=
 vap G76_ok follows (f110.body.getD .skip) func110 (by kernel_rfl) fun p q=>⟨wpe,(n26n_p ..).p.map _,by rw [wqr];kernel_rfl,vaa (ids:=[]) (by kernel_rfl) (by kernel_rfl) trivial⟩
def G77:Glob:=G76.add 110 w4a
theorem G77_ok:GlobOk prog G77:=G76_ok.add ⟨f110,func110,by kernel_rfl,by kernel_rfl⟩ xcu
def vuw:q14T→List AV:=fun x=>[.lst tTxn x.1,.fn 163 [.bp 0 0],.i x.2.1,.i x.2.2.1,.i x.2.2.2.1]
def vvi:q14T→St:=fun x=>let xh:=x.2.2.2.2;[.box [.i xh.1,.i xh.2.1,.i xh.2.2.1,.i xh.2.2.2.1,.lst tRange xh.2.2.2.2.1,.lst tWrite xh.2.2.2.2.2.1,.bool xh.2.2.2.2.2.2.1,.str xh.2.2.2.2.2.2.2]]
def vyr:Nat→Option LoopSpec
 |0=>some (lpS [0,1,4,7,8] [] [.lst tTxn,.fn 163 [.bp 0 0],.i,.i,.i] [.box [.i,.i,.i,.i,.lst tRange,.lst tWrite,.bool,.str]] vi8 (fun p q=>(p.1,p.2.2.1,p.2.2.2.1,p.2.2.2.2.1,q.1.1,q.1.2.1,q.1.2.2.1,q.1.2.2.2.1,q.1.2.2.2.2.1,q.1.2.2.2.2.2.1,q.1.2.2.2.2.2.2.1,q.1.2.2.2.2.2.2.2.1)) (fun k=>(Sum.elim (onE (exZ .ret vuw vvi) k) (onE (exZ (.exit 0) vuw vvi) k))))
 |_=>none
theorem wqf:LpAt G77 ⟨1,19,vyr⟩ f99 0:=
 val rfl (fun x=>(n104n_bp0 x).p) vuw vvi (Sum.elim ((exZ .ret vuw vvi)) ((exZ (.exit 0) vuw vvi))) (fun _ _=>⟨rfl,rfl⟩) (fun z=>by rcases z with z|z<;>(intro h;cases h)) (fun k z=>by rcases z with z|z<;>rfl) (fun x=>by kernel_rfl)
def vul:q14T→List AV:=fun x=>[.lst tTxn x.1,.fn 170 [.bp 0 0],.i x.2.1,.i x.2.2.1,.i x.2.2.2.1]
def vvj:q14T→St:=fun x=>let xh:=x.2.2.2.2;[.box [.i xh.1,.i xh.2.1,.i xh.2.2.1,.i xh.2.2.2.1,.lst tRange xh.2.2.2.2.1,.lst tWrite xh.2.2.2.2.2.1,.bool xh.2.2.2.2.2.2.1,.str xh.2.2.2.2.2.2.2]]
def v2u:Nat→Option LoopSpec
 |0=>some (lpS [0,1,4,7,8] [] [.lst tTxn,.fn 170 [.bp 0 0],.i,.i,.i] [.box [.i,.i,.i,.i,.lst tRange,.lst tWrite,.bool,.str]] vjp (fun p q=>(p.1,p.2.2.1,p.2.2.2.1,p.2.2.2.2.1,q.1.1,q.1.2.1,q.1.2.2.1,q.1.2.2.2.1,q.1.2.2.2.2.1,q.1.2.2.2.2.2.1,q.1.2.2.2.2.2.2.1,q.1.2.2.2.2.2.2.2.1)) (fun k=>(Sum.elim (onE (exZ .ret vul vvj) k) (onE (exZ (.exit 0) vul vvj) k))))
 |_=>none
theorem wyl:LpAt G77 ⟨1,19,v2u⟩ f99 0:=
 val rfl (fun x=>(n100n_bp0 x).p) vul vvj (Sum.elim ((exZ .ret vul vvj)) ((exZ (.exit 0) vul vvj))) (fun _ _=>⟨rfl,rfl⟩) (fun z=>by rcases z with z|z<;>(intro h;cases h)) (fun k z=>by rcases z with z|z<;>rfl) (fun x=>by kernel_rfl)
def vti:q15T→List AV:=fun x=>[.lst tTxn x.1,.fn 122 [.bp 0 0],.i x.2.1,.i x.2.2.1,.i x.2.2.2.1]
def vtu:q15T→St:=fun x=>let xh:=x.2.2.2.2;[.box [.i xh.1,.i xh.2.1,.i xh.2.2.1,.i xh.2.2.2.1,.dead,.dead,.bool xh.2.2.2.2.1,.str xh.2.2.2.2.2]]
def v2b:Nat→Option LoopSpec
 |0=>some (lpS [0,1,4,7,8] [] [.lst tTxn,.fn 122 [.bp 0 0],.i,.i,.i] [.box [.i,.i,.i,.i,.dead,.dead,.bool,.str]] vji (fun p q=>(p.1,p.2.2.1,p.2.2.2.1,p.2.2.2.2.1,q.1.1,q.1.2.1,q.1.2.2.1,q.1.2.2.2.1,q.1.2.2.2.2.2.2.1,q.1.2.2.2.2.2.2.2.1)) (fun k=>(Sum.elim (onE (exZ .ret vti vtu) k) (onE (exZ (.exit 0) vti vtu) k))))
 |_=>none
theorem wwe:LpAt G77 ⟨1,19,v2b⟩ f99 0:=
 val rfl (fun x=>(n102n_bp0 x).p) vti vtu (Sum.elim ((exZ .ret vti vtu)) ((exZ (.exit 0) vti vtu))) (fun _ _=>⟨rfl,rfl⟩) (fun z=>by rcases z with z|z<;>(intro h;cases h)) (fun k z=>by rcases z with z|z<;>rfl) (fun x=>by kernel_rfl)
def vt5:q12T→List AV:=fun x=>[.lst tTxn x.1,.fn 100 [.bp 0 0],.i x.2.1,.i x.2.2.1,.i x.2.2.2.1]
def vtm:q12T→St:=fun x=>[.box [.str x.2.2.2.2]]
def v0d:Nat→Option LoopSpec
 |0=>some (lpS [0,1,4,7,8] [] [.lst tTxn,.fn 100 [.bp 0 0],.i,.i,.i] [.box [.str]] viw (fun p q=>(p.1,p.2.2.1,p.2.2.2.1,p.2.2.2.2.1,q.1.1)) (fun k=>(Sum.elim (onE (exZ .ret vt5 vtm) k) (onE (exZ (.exit 0) vt5 vtm) k))))
 |_=>none
theorem wxq:LpAt G77 ⟨1,19,v0d⟩ f99 0:=
 val rfl (fun x=>(n101n_bp0 x).p) vt5 vtm (Sum.elim ((exZ .ret vt5 vtm)) ((exZ (.exit 0) vt5 vtm))) (fun _ _=>⟨rfl,rfl⟩) (fun z=>by rcases z with z|z<;>(intro h;cases h)) (fun k z=>by rcases z with z|z<;>rfl) (fun x=>by kernel_rfl)
def vzr:q12T→List AV:=fun x=>[.lst tTxn x.1,.fn 102 [.bp 0 0],.i x.2.1,.i x.2.2.1,.i x.2.2.2.1]
def v10:q12T→St:=fun x=>[.box [.str x.2.2.2.2]]
def v6w:Nat→Option LoopSpec
 |0=>some (lpS [0,1,4,7,8] [] [.lst tTxn,.fn 102 [.bp 0 0],.i,.i,.i] [.box [.str]] vp6 (fun p q=>(p.1,p.2.2.1,p.2.2.2.1,p.2.2.2.2.1,q.1.1)) (fun k=>(Sum.elim (onE (exZ .ret vzr v10) k) (onE (exZ (.exit 0) vzr v10) k))))
 |_=>none
theorem wy9:LpAt G77 ⟨1,19,v6w⟩ f99 0:=
 val rfl (fun x=>(n99n_bp0 x).p) vzr v10 (Sum.elim ((exZ .ret vzr v10)) ((exZ (.exit 0) vzr v10))) (fun _ _=>⟨rfl,rfl⟩) (fun z=>by rcases z with z|z<;>(intro h;cases h)) (fun k z=>by rcases z with z|z<;>rfl) (fun x=>by kernel_rfl)
def vu3:q16T→List AV:=fun x=>[.lst tTxn x.1,.fn 110 [.bp 0 0],.i x.2.1,.i x.2.2.1,.i x.2.2.2.1]
def vvr:q16T→St:=fun x=>[.box [.i x.2.2.2.2]]
def v0c:Nat→Option LoopSpec
 |0=>some (lpS [0,1,4,7,8] [] [.lst tTxn,.fn 110 [.bp 0 0],.i,.i,.i] [.box [.i]] vjt (fun p q=>(p.1,p.2.2.1,p.2.2.2.1,p.2.2.2.2.1,q.1.1)) (fun k=>(Sum.elim (onE (exZ .ret vu3 vvr) k) (onE (exZ (.exit 0) vu3 vvr) k))))
 |_=>none
theorem wx7:LpAt G77 ⟨1,19,v0c⟩ f99 0:=
 val rfl (fun x=>(n103n_bp0 x).p) vu3 vvr (Sum.elim ((exZ .ret vu3 vvr)) ((exZ (.exit 0) vu3 vvr))) (fun _ _=>⟨rfl,rfl⟩) (fun z=>by rcases z with z|z<;>(intro h;cases h)) (fun k z=>by rcases z with z|z<;>rfl) (fun x=>by kernel_rfl)
theorem vnu:vad prog 99 vav:=by
 refine told G77_ok follows func99 (c:=f99.body.getD .skip) (by kernel_rfl) ?_
 intro args s k r hk
 unfold vav at hk
 rcases vcj hk with⟨p,q,rfl,rfl⟩|hk
 ·exact⟨vyr,(n104n_p p.1 q.1.1 q.1.2.1 q.1.2.2.1 q.1.2.2.2.1 q.1.2.2.2.2.1 q.1.2.2.2.2.2.1 q.1.2.2.2.2.2.2.1 q.1.2.2.2.2.2.2.2.1).p.map _,by unfold vav;rw [we8];kernel_rfl,vaa (ids:=[0]) (by kernel_rfl) (by kernel_rfl) ⟨wqf,trivial⟩⟩
 rcases vcj hk with⟨p,q,rfl,rfl⟩|hk
 ·exact⟨v2u,(n100n_p p.1 q.1.1 q.1.2.1 q.1.2.2.1 q.1.2.2.2.1 q.1.2.2.2.2.1 q.1.2.2.2.2.2.1 q.1.2.2.2.2.2.2.1 q.1.2.2.2.2.2.2.2.1).p.map _,by unfold vav;rw [whk];kernel_rfl,vaa (ids:=[0]) (by kernel_rfl) (by kernel_rfl) ⟨wyl,trivial⟩⟩
 rcases vcj hk with⟨p,q,rfl,rfl⟩|hk
 ·exact⟨v2b,(n102n_p p.1 q.1.1 q.1.2.1 q.1.2.2.1 q.1.2.2.2.1 q.1.2.2.2.2.2.2.1 q.1.2.2.2.2.2.2.2.1).p.map _,by unfold vav;rw [wir];kernel_rfl,vaa (ids:=[0]) (by kernel_rfl) (by kernel_rfl) ⟨wwe,trivial⟩⟩
 rcases vcj hk with⟨p,q,rfl,rfl⟩|hk
 ·exact⟨v0d,(n101n_p p.1 q.1.1).p.map _,by unfold vav;rw [wio];kernel_rfl,vaa (ids:=[0]) (by kernel_rfl) (by kernel_rfl) ⟨wxq,trivial⟩⟩
 rcases vcj hk with⟨p,q,rfl,rfl⟩|hk
 ·exact⟨v6w,(n99n_p p.1 q.1.1).p.map _,by unfold vav;rw [wqe];kernel_rfl,vaa (ids:=[0]) (by kernel_rfl) (by kernel_rfl) ⟨wy9,trivial⟩⟩
 rcases vcj hk with⟨p,q,rfl,rfl⟩|hk
 ·exact⟨v0c,(n103n_p p.1 q.1.1).p.map _,by unfold vav;rw [whv];kernel_rfl,vaa (ids:=[0]) (by kernel_rfl) (by kernel_rfl) ⟨wx7,trivial⟩⟩
 cases hk
def G78:Glob:=G77.add 99 vav
theorem G78_ok:GlobOk prog G78:=G77_ok.add ⟨f99,func99,by kernel_rfl,by kernel_rfl⟩ vnu
def wn2:Nat→Option LoopSpec
 |_=>none
def wp3:Nat→Option LoopSpec
 |_=>none
theorem vki:vad prog 204 vbg:=by
 refine told G78_ok follows func204 (c:=f204.body.getD .skip) (by kernel_rfl) ?_
 intro args s k r hk
 unfold vbg at hk
 rcases vcj hk with⟨p,q,rfl,rfl⟩|hk
 ·exact⟨wn2,(n94n_p p.1 q.1.1 q.1.2.1 q.1.2.2.1 q.1.2.2.2.1 q.1.2.2.2.2.1 q.1.2.2.2.2.2.1 q.1.2.2.2.2.2.2.1 q.1.2.2.2.2.2.2.2.1).p.map _,by unfold vbg;rw [wwj];kernel_rfl,vaa (ids:=[]) (by kernel_rfl) (by kernel_rfl) trivial⟩
 rcases vcj hk with⟨p,q,rfl,rfl⟩|hk
 ·exact⟨wp3,(n93n_p p.1 q.1.1 q.1.2.1 q.1.2.2.1 q.1.2.2.2.1 q.1.2.2.2.2.1 q.1.2.2.2.2.2.1 q.1.2.2.2.2.2.2.1 q.1.2.2.2.2.2.2.2.1).p.map _,by unfold vbg;rw [wtm];kernel_rfl,vaa (ids:=[]) (by kernel_rfl) (by kernel_rfl) trivial⟩
 cases hk
def G79:Glob:=G78.add 204 vbg
theorem G79_ok:GlobOk prog G79:=G78_ok.add ⟨f204,func204,by kernel_rfl,by kernel_rfl⟩ vki
def woh:Nat→Option LoopSpec
 |_=>none
def wpg:Nat→Option LoopSpec
 |_=>none
theorem whn:vad prog 159 vig:=by
 refine told G79_ok follows func159 (c:=f159.body.getD .skip) (by kernel_rfl) ?_
 intro args s k r hk
 unfold vig at hk
 rcases vcj hk with⟨p,q,rfl,rfl⟩|hk
 ·exact⟨woh,(n46n_p p.1 q.1.1 q.1.2.1 q.1.2.2.1 q.1.2.2.2.1 q.1.2.2.2.2.1 q.1.2.2.2.2.2.1 q.1.2.2.2.2.2.2.1 q.1.2.2.2.2.2.2.2.1).p.map _,by unfold vig;rw [wyf];kernel_rfl,vaa (ids:=[]) (by kernel_rfl) (by kernel_rfl) trivial⟩
 rcases vcj hk with⟨p,q,rfl,rfl⟩|hk
 ·exact⟨wpg,(n45n_p p.1 q.1.1 q.1.2.1 q.1.2.2.1 q.1.2.2.2.1 q.1.2.2.2.2.1 q.1.2.2.2.2.2.1 q.1.2.2.2.2.2.2.1 q.1.2.2.2.2.2.2.2.1).p.map _,by unfold vig;rw [wsn];kernel_rfl,vaa (ids:=[]) (by kernel_rfl) (by kernel_rfl) trivial⟩
 cases hk
def G80:Glob:=G79.add 159 vig
theorem G80_ok:GlobOk prog G80:=G79_ok.add ⟨f159,func159,by kernel_rfl,by kernel_rfl⟩ whn
def vyu:q10T→List AV:=fun x=>[.lst tTxn x.1,.i x.2.1,.bool x.2.2.1,.lst tTxn x.2.2.2.1,.i x.2.2.2.2.1,.i x.2.2.2.2.2]
def v02:q10T→St:=fun x=>[]
def v6q:Nat→Option LoopSpec
 |0=>some (lpS [0,1,4,7,8,9] [] [.lst tTxn,.i,.bool,.lst tTxn,.i,.i] [] vph (fun p q=>(p.1,p.2.1,p.2.2.1,p.2.2.2.1,p.2.2.2.2.1,p.2.2.2.2.2.1)) (fun k=>(Sum.elim (onE (exZ .ret vyu v02) k) (onE (exZ (.exit 0) vyu v02) k))))
 |_=>none
theorem w06:LpAt G80 ⟨0,26,v6q⟩ f93 0:=
 val rfl (fun x=>(n40n_bp0 x).p) vyu v02 (Sum.elim ((exZ .ret vyu v02)) ((exZ (.exit 0) vyu v02))) (fun _ _=>⟨rfl,rfl⟩) (fun z=>by rcases z with z|z<;>(intro h;cases h)) (fun k z=>by rcases z with z|z<;>rfl) (fun x=>by kernel_rfl)
theorem w9z:vad prog 93 w5u:=
 vap G80_ok follows (f93.body.getD .skip) func93 (by kernel_rfl) fun p q=>⟨v6q,(n40n_p ..).p.map _,by rw [wre];kernel_rfl,vaa (ids:=[0]) (by kernel_rfl) (by kernel_rfl) ⟨w06,trivial⟩⟩
def G81:Glob:=G80.add 93 w5u
theorem G81_ok:GlobOk prog G81:=G80_ok.add ⟨f93,func93,by kernel_rfl,by kernel_rfl⟩ w9z
def v1i:q49T→List AV:=fun x=>[.bp 0 0,.bool x.1,.lst tVersion x.2.1,.i x.2.2.1,.i x.2.2.2.1]
def v22:q49T→St:=fun x=>let xh:=x.2.2.2.2;[.box [.lst tVersion xh.1,.lst tTxn xh.2.1,.lst tTxn xh.2.2.1,.i xh.2.2.2.1,.i xh.2.2.2.2]]
def vy1:q44T→List AV:=fun x=>[.bp 0 0,.bool x.1,.lst tTxn x.2.1,.i x.2.2.1,.i x.2.2.2.1]
def vy3:q44T→St:=fun x=>let xh:=x.2.2.2.2;[.box [.lst tVersion xh.1,.lst tTxn xh.2.1,.lst tTxn xh.2.2.1,.i xh.2.2.2.1,.i xh.2.2.2.2]]
def vz8:q44T→List AV:=fun x=>[.bp 0 0,.bool x.1,.lst tTxn x.2.1,.i x.2.2.1,.i x.2.2.2.1]
def v0u:q44T→St:=fun x=>let xh:=x.2.2.2.2;[.box [.lst tVersion xh.1,.lst tTxn xh.2.1,.lst tTxn xh.2.2.1,.i xh.2.2.2.1,.i xh.2.2.2.2]]
def vkg:q48T→List AV:=fun x=>[.bp 0 0,.bool x.1]
def vkz:q48T→St:=fun x=>[.box [.lst tVersion x.2.1,.lst tTxn x.2.2.1,.lst tTxn x.2.2.2.1,.i x.2.2.2.2.1,.i x.2.2.2.2.2]]
def vlt:Nat→Option LoopSpec
 |0=>some (lpS [1,2,38,39,40] [] [.bp 0 0,.bool,.lst tVersion,.i,.i] [.box [.lst tVersion,.lst tTxn,.lst tTxn,.i,.i]] voe (fun p q=>(p.2.1,p.2.2.1,p.2.2.2.1,p.2.2.2.2.1,q.1.1,q.1.2.1,q.1.2.2.1,q.1.2.2.2.1,q.1.2.2.2.2.1)) (fun k=>(Sum.elim (onE (exZ .ret v1i v22) k) (onE (exZ (.exit 0) v1i v22) k))))
 |2=>some (lpS [1,2,51,52,53] [] [.bp 0 0,.bool,.lst tTxn,.i,.i] [.box [.lst tVersion,.lst tTxn,.lst tTxn,.i,.i]] vn6 (fun p q=>(p.2.1,p.2.2.1,p.2.2.2.1,p.2.2.2.2.1,q.1.1,q.1.2.1,q.1.2.2.1,q.1.2.2.2.1,q.1.2.2.2.2.1)) (fun k=>(Sum.elim (onE (exZ .ret vy1 vy3) k) (onE (exZ (.exit 2) vy1 vy3) k))))
 |4=>some (lpS [1,2,91,92,93] [] [.bp 0 0,.bool,.lst tTxn,.i,.i] [.box [.lst tVersion,.lst tTxn,.lst tTxn,.i,.i]] vqj (fun p q=>(p.2.1,p.2.2.1,p.2.2.2.1,p.2.2.2.2.1,q.1.1,q.1.2.1,q.1.2.2.1,q.1.2.2.2.1,q.1.2.2.2.2.1)) (fun k=>(Sum.elim (onE (exZ .ret vz8 v0u) k) (onE (exZ (.exit 4) vz8 v0u) k))))
 |5000003=>some (ctS [1,2] [] [.bp 0 0,.bool] [.box [.lst tVersion,.lst tTxn,.lst tTxn,.i,.i]] vei (fun p q=>(p.2.1,q.1.1,q.1.2.1,q.1.2.2.1,q.1.2.2.2.1,q.1.2.2.2.2.1)) (fun k=>(onE (exZ .ret vkg vkz) k)))
 |2000012=>some ⟨[0,3,4,6,8,11,12,14,16,18,20,22,24,26,28,30,32,34,36,38,40,42,44,46,48,50,52,54,56,58,60],[],fun _ _ _=>none⟩
 |2000018=>some ⟨[0,3,4,6,8,11,12,14,16,18,20,22,24,26,28,30,32,34,36,38,40,42,44,46,48,50,52,54,56,58,60],[],fun _ _ _=>none⟩
 |2000021=>some ⟨[0,2,4,6,12,14,9,11,17,18],[],fun _ _ _=>none⟩
 |_=>none
theorem w15:LpAt G81 ⟨0,139,vlt⟩ f47 0:=
 val rfl (fun x=>(n05n_bp0 x).p) v1i v22 (Sum.elim ((exZ .ret v1i v22)) ((exZ (.exit 0) v1i v22))) (fun _ _=>⟨rfl,rfl⟩) (fun z=>by rcases z with z|z<;>(intro h;cases h)) (fun k z=>by rcases z with z|z<;>rfl) (fun x=>by kernel_rfl)
theorem wz7:LpAt G81 ⟨0,139,vlt⟩ f47 2:=
 val rfl (fun x=>(n05n_bp2 x).p) vy1 vy3 (Sum.elim ((exZ .ret vy1 vy3)) ((exZ (.exit 2) vy1 vy3))) (fun _ _=>⟨rfl,rfl⟩) (fun z=>by rcases z with z|z<;>(intro h;cases h)) (fun k z=>by rcases z with z|z<;>rfl) (fun x=>by kernel_rfl)
theorem wzk:LpAt G81 ⟨0,139,vlt⟩ f47 4:=
 val rfl (fun x=>(n05n_bp4 x).p) vz8 v0u (Sum.elim ((exZ .ret vz8 v0u)) ((exZ (.exit 4) vz8 v0u))) (fun _ _=>⟨rfl,rfl⟩) (fun z=>by rcases z with z|z<;>(intro h;cases h)) (fun k z=>by rcases z with z|z<;>rfl) (fun x=>by kernel_rfl)
theorem v4p:CtAt G81 ⟨0,139,vlt⟩ f47 5000003:=
 vby rfl (fun x=>(n05n_jp5000003 x).p) vkg vkz (exZ .ret vkg vkz) (fun _ _=>⟨rfl,rfl⟩) (fun _ _=>rfl) (fun x=>by kernel_rfl)
theorem xbz:vad prog 47 w47:=
 vap G81_ok follows (f47.body.getD .skip) func47 (by kernel_rfl) fun p q=>⟨vlt,(n05n_p _).p.map _,by rw [wwm];kernel_rfl,vaa (ids:=[0,2,4,5000003]) (by kernel_rfl) (by kernel_rfl) ⟨w15,⟨wz7,⟨wzk,⟨v4p,trivial⟩⟩⟩⟩⟩
def G82:Glob:=G81.add 47 w47
theorem G82_ok:GlobOk prog G82:=G81_ok.add ⟨f47,func47,by kernel_rfl,by kernel_rfl⟩ xbz
def wnt:Nat→Option LoopSpec
 |_=>none
theorem w95:vad prog 92 w5q:=
 vap G82_ok follows (f92.body.getD .skip) func92 (by kernel_rfl) fun p q=>⟨wnt,(n36n_p _).p.map _,by rw [wyd];kernel_rfl,vaa (ids:=[]) (by kernel_rfl) (by kernel_rfl) trivial⟩
def G83:Glob:=G82.add 92 w5q
theorem G83_ok:GlobOk prog G83:=G82_ok.add ⟨f92,func92,by kernel_rfl,by kernel_rfl⟩ w95
def wgq:q11T→List AV:=fun x=>[.own 0,.lst tTxn x.1,.i x.2.1,.i x.2.2.1]
def wgu:q11T→St:=fun x=>[.dep tTxn x.2.2.2 0 []]
def v8n:Nat→Option LoopSpec
 |0=>some (lpS [3,6,7,8] [some tTxn] [.own 0,.lst tTxn,.i,.i] [.dep tTxn 0] vnz (fun p q=>(p.2.1,p.2.2.1,p.2.2.2.1,q.1)) (fun k=>(onE (exZ (.exit 0) wgq wgu) k)))
 |_=>none
theorem w1d:LpAt G83 ⟨0,19,v8n⟩ f140 0:=
 val rfl (fun x=>(n37n_bp0 x).p) wgq wgu (exZ (.exit 0) wgq wgu) (fun _ _=>⟨rfl,rfl⟩) (fun z=>by(intro h;cases h)) (fun _ _=>rfl) (fun x=>by kernel_rfl)
theorem xc0:vad prog 140 w5c:=
 vap G83_ok follows (f140.body.getD .skip) func140 (by kernel_rfl) fun p q=>⟨v8n,(n37n_p _).p.map _,by rw [wta];kernel_rfl,vaa (ids:=[0]) (by kernel_rfl) (by kernel_rfl) ⟨w1d,trivial⟩⟩
def G84:Glob:=G83.add 140 w5c
theorem G84_ok:GlobOk prog G84:=G83_ok.add ⟨f140,func140,by kernel_rfl,by kernel_rfl⟩ xc0
def wnz:Nat→Option LoopSpec
 |2000002=>some ⟨[0,2,6,8,5,12,11,14,16,18],[],fun _ _ _=>none⟩
 |_=>none
theorem xas:vad prog 68 w54:=
 vap G84_ok follows (f68.body.getD .skip) func68 (by kernel_rfl) fun p q=>⟨wnz,(n35n_p _).p.map _,by rw [wwu];kernel_rfl,vaa (ids:=[]) (by kernel_rfl) (by kernel_rfl) trivial⟩
def G85:Glob:=G84.add 68 w54
theorem G85_ok:GlobOk prog G85:=G84_ok.add ⟨f68,func68,by kernel_rfl,by kernel_rfl⟩ xas
def wok:Nat→Option LoopSpec
 |_=>none
theorem w98:vad prog 138 w3z:=
 vap G85_ok follows (f138.body.getD .skip) func138 (by kernel_rfl) fun p q=>⟨wok,(n39n_p _).p.map _,by rw [wxy];kernel_rfl,vaa (ids:=[]) (by kernel_rfl) (by kernel_rfl) trivial⟩
def G86:Glob:=G85.add 138 w3z
theorem G86_ok:GlobOk prog G86:=G85_ok.add ⟨f138,func138,by kernel_rfl,by kernel_rfl⟩ w98
def wpj:Nat→Option LoopSpec
 |_=>none
theorem w9q:vad prog 139 w6c:=
 vap G86_ok follows (f139.body.getD .skip) func139 (by kernel_rfl) fun p q=>⟨wpj,(n38n_p _).p.map _,by rw [wxv];kernel_rfl,vaa (ids:=[]) (by kernel_rfl) (by kernel_rfl) trivial⟩
def G87:Glob:=G86.add 139 w6c
theorem G87_ok:GlobOk prog G87:=G86_ok.add ⟨f139,func139,by kernel_rfl,by kernel_rfl⟩ w9q
def vk9:q54T→List AV:=fun x=>[.bp 0 0,.bool x.1,.bool x.2.1,.bool x.2.2.1,.bool x.2.2.2.1]
def vkc:q54T→St:=fun x=>let xh:=x.2.2.2.2;let xi:=xh.2.2.2.2;let xj:=xi.2.2.2.2;[.box [.i xh.1,.i xh.2.1,.i xh.2.2.1,.i xh.2.2.2.1,.i xi.1,.lst tRange xi.2.1,.lst tWrite xi.2.2.1,.bool xi.2.2.2.1,.str xj.1,.str xj.2.1,.bool xj.2.2.1,.lst tVersion xj.2.2.2.1,.lst tTxn xj.2.2.2.2.1,.lst tTxn xj.2.2.2.2.2.1,.i xj.2.2.2.2.2.2.1,.i xj.2.2.2.2.2.2.2]]
def v7r:Nat→Option LoopSpec
 |5000012=>some (ctS [1,2,3,4,5] [] [.bp 0 0,.bool,.bool,.bool,.bool] [.box [.i,.i,.i,.i,.i,.lst tRange,.lst tWrite,.bool,.str,.str,.bool,.lst tVersion,.lst tTxn,.lst tTxn,.i,.i]] vbp (fun p q=>(p.2.1,p.2.2.1,p.2.2.2.1,p.2.2.2.2.1,q.1.1,q.1.2.1,q.1.2.2.1,q.1.2.2.2.1,q.1.2.2.2.2.1,q.1.2.2.2.2.2.1,q.1.2.2.2.2.2.2.1,q.1.2.2.2.2.2.2.2.1,q.1.2.2.2.2.2.2.2.2.1,q.1.2.2.2.2.2.2.2.2.2.1,q.1.2.2.2.2.2.2.2.2.2.2.1,q.1.2.2.2.2.2.2.2.2.2.2.2.1,q.1.2.2.2.2.2.2.2.2.2.2.2.2.1,q.1.2.2.2.2.2.2.2.2.2.2.2.2.2.1,q.1.2.2.2.2.2.2.2.2.2.2.2.2.2.2.1,q.1.2.2.2.2.2.2.2.2.2.2.2.2.2.2.2.1)) (fun k=>(onE (exZ .ret vk9 vkc) k)))
 |2000001=>some ⟨[0,2,6,8,10,12,14,5,17,18,20,22],[],fun _ _ _=>none⟩
 |_=>none
theorem v43:CtAt G87 ⟨0,64,v7r⟩ f67 5000012:=
 vby rfl (fun x=>(n22n_jp5000012 x).p) vk9 vkc (exZ .ret vk9 vkc) (fun _ _=>⟨rfl,rfl⟩) (fun _ _=>rfl) (fun x=>by kernel_rfl)
theorem w9p:vad prog 67 w5f:=
 vap G87_ok follows (f67.body.getD .skip) func67 (by kernel_rfl) fun p q=>⟨v7r,(n22n_p _).p.map _,by rw [wwi];kernel_rfl,vaa (ids:=[5000012]) (by kernel_rfl) (by kernel_rfl) ⟨v43,trivial⟩⟩
def G88:Glob:=G87.add 67 w5f
theorem G88_ok:GlobOk prog G88:=G87_ok.add ⟨f67,func67,by kernel_rfl,by kernel_rfl⟩ w9p
def wpz:Nat→Option LoopSpec
 |_=>none
theorem xbr:vad prog 98 w4f:=
 vap G88_ok follows (f98.body.getD .skip) func98 (by kernel_rfl) fun p q=>⟨wpz,(n14n_p ..).p.map _,by rw [wrn];kernel_rfl,vaa (ids:=[]) (by kernel_rfl) (by kernel_rfl) trivial⟩
def G89:Glob:=G88.add 98 w4f
theorem G89_ok:GlobOk prog G89:=G88_ok.add ⟨f98,func98,by kernel_rfl,by kernel_rfl⟩ xbr
def wop:Nat→Option LoopSpec
 |_=>none
theorem w9y:vad prog 183 w4r:=
 vap G89_ok follows (f183.body.getD .skip) func183 (by kernel_rfl) fun p q=>⟨wop,(n18n_p ..).p.map _,by rw [wws];kernel_rfl,vaa (ids:=[]) (by kernel_rfl) (by kernel_rfl) trivial⟩
def G90:Glob:=G89.add 183 w4r
theorem G90_ok:GlobOk prog G90:=G89_ok.add ⟨f183,func183,by kernel_rfl,by kernel_rfl⟩ w9y
def vun:q33T→List AV:=fun x=>[.lst tVersion x.1,.fn 183 [.bp 0 0],.i x.2.1,.i x.2.2.1,.i x.2.2.2.1]
def vtk:q33T→St:=fun x=>[.box [.str x.2.2.2.2.1,.str x.2.2.2.2.2.1,.bool x.2.2.2.2.2.2.1,.i x.2.2.2.2.2.2.2]]
def v0q:Nat→Option LoopSpec
 |0=>some (lpS [0,1,4,7,8] [] [.lst tVersion,.fn 183 [.bp 0 0],.i,.i,.i] [.box [.str,.str,.bool,.i]] vjx (fun p q=>(p.1,p.2.2.1,p.2.2.2.1,p.2.2.2.2.1,q.1.1,q.1.2.1,q.1.2.2.1,q.1.2.2.2.1)) (fun k=>(Sum.elim (onE (exZ .ret vun vtk) k) (onE (exZ (.exit 0) vun vtk) k))))
 |_=>none
theorem wym:LpAt G90 ⟨1,19,v0q⟩ f182 0:=
 val rfl (fun x=>(n105n_bp0 x).p) vun vtk (Sum.elim ((exZ .ret vun vtk)) ((exZ (.exit 0) vun vtk))) (fun _ _=>⟨rfl,rfl⟩) (fun z=>by rcases z with z|z<;>(intro h;cases h)) (fun k z=>by rcases z with z|z<;>rfl) (fun x=>by kernel_rfl)
theorem viu:vad prog 182 vek:=
 vap G90_ok follows (f182.body.getD .skip) func182 (by kernel_rfl) fun p q=>⟨v0q,(n105n_p ..).p.map _,by rw [wij];kernel_rfl,vaa (ids:=[0]) (by kernel_rfl) (by kernel_rfl) ⟨wym,trivial⟩⟩
def G91:Glob:=G90.add 182 vek
theorem G91_ok:GlobOk prog G91:=G90_ok.add ⟨f182,func182,by kernel_rfl,by kernel_rfl⟩ viu
theorem vnd:vad prog 184 vdm:=by
 intro args s k r hk
 unfold vdm at hk
 rw [wf1]at hk
 unfold vy7 at hk
 exact v84 Tryz.insLayb (by decide) (e:=tVersion) rfl #[.string ⟨#[]⟩,.string ⟨#[]⟩,.bool false,.int IntKind.i64 0] rfl rfl args s k r hk
def G92:Glob:=G91.add 184 vdm
theorem G92_ok:GlobOk prog G92:=G91_ok.add ⟨f184,func184,by kernel_rfl,by kernel_rfl⟩ vnd
def wgv:q83T→List AV:=fun x=>[.i x.1,.own 0,.lst tWrite x.2.1,.i x.2.2.1,.i x.2.2.2.1]
def wgr:q83T→St:=fun x=>[.arr tVersion x.2.2.2.2]
def v6i:Nat→Option LoopSpec
 |0=>some (lpS [2,7,14,15,16] [] [.i,.own 0,.lst tWrite,.i,.i] [.arr tVersion] vpi (fun p q=>(p.1,p.2.2.1,p.2.2.2.1,p.2.2.2.2.1,q.1)) (fun k=>(onE (exZ (.exit 0) wgv wgr) k)))
 |_=>none
theorem wzo:LpAt G92 ⟨0,42,v6i⟩ f121 0:=
 val rfl (fun x=>(n17n_bp0 x).p) wgv wgr (exZ (.exit 0) wgv wgr) (fun _ _=>⟨rfl,rfl⟩) (fun z=>by(intro h;cases h)) (fun _ _=>rfl) (fun x=>by kernel_rfl)
theorem xb5:vad prog 121 w5o:=
 vap G92_ok follows (f121.body.getD .skip) func121 (by kernel_rfl) fun p q=>⟨v6i,(n17n_p ..).p.map _,by rw [ws9];kernel_rfl,vaa (ids:=[0]) (by kernel_rfl) (by kernel_rfl) ⟨wzo,trivial⟩⟩
def G93:Glob:=G92.add 121 w5o
theorem G93_ok:GlobOk prog G93:=G92_ok.add ⟨f121,func121,by kernel_rfl,by kernel_rfl⟩ xb5
def vl0:Nat→Option LoopSpec
 |0=>some ⟨[0,1,5,6],[],fun vals st k=>vag [.own 0,.fn 122 [.bp 1 0],.i,.i] [.mov tTxn 0,.box [.i,.i,.i,.i,.dead,.dead,.bool,.str]] vals st (fun p q=>vab vic Fuel (.inl (p.2.2.1,p.2.2.2.1,q.1.1,q.1.2,q.2.1.1,q.2.1.2.1,q.2.1.2.2.1,q.2.1.2.2.2.1,q.2.1.2.2.2.2.2.2.1,q.2.1.2.2.2.2.2.2.2.1)) (Sum.elim (fun z=>k (.exit 0) [.own 0,.fn 122 [.bp 1 0],.i z.1,.i z.2.1] [.dep tTxn z.2.2.1 0 z.2.2.2.1,.box [.i z.2.2.2.2.1,.i z.2.2.2.2.2.1,.i z.2.2.2.2.2.2.1,.i z.2.2.2.2.2.2.2.1,.dead,.dead,.bool z.2.2.2.2.2.2.2.2.1,.str z.2.2.2.2.2.2.2.2.2]]) (fun z=>k (.exit 0) [.own 0,.fn 122 [.bp 1 0],.i z.1,.i z.2.1] [.dep tTxn z.2.2.1 1 z.2.2.2.1,.box [.i z.2.2.2.2.1,.i z.2.2.2.2.2.1,.i z.2.2.2.2.2.2.1,.i z.2.2.2.2.2.2.2.1,.dead,.dead,.bool z.2.2.2.2.2.2.2.2.1,.str z.2.2.2.2.2.2.2.2.2]])))
   (vag [.own 0,.fn 122 [.bp 1 0],.i,.i] [.mov tTxn 1,.box [.i,.i,.i,.i,.dead,.dead,.bool,.str]] vals st (fun p q=>vab vic Fuel (.inr (p.2.2.1,p.2.2.2.1,q.1.1,q.1.2,q.2.1.1,q.2.1.2.1,q.2.1.2.2.1,q.2.1.2.2.2.1,q.2.1.2.2.2.2.2.2.1,q.2.1.2.2.2.2.2.2.2.1)) (Sum.elim (fun z=>k (.exit 0) [.own 0,.fn 122 [.bp 1 0],.i z.1,.i z.2.1] [.dep tTxn z.2.2.1 0 z.2.2.2.1,.box [.i z.2.2.2.2.1,.i z.2.2.2.2.2.1,.i z.2.2.2.2.2.2.1,.i z.2.2.2.2.2.2.2.1,.dead,.dead,.bool z.2.2.2.2.2.2.2.2.1,.str z.2.2.2.2.2.2.2.2.2]]) (fun z=>k (.exit 0) [.own 0,.fn 122 [.bp 1 0],.i z.1,.i z.2.1] [.dep tTxn z.2.2.1 1 z.2.2.2.1,.box [.i z.2.2.2.2.1,.i z.2.2.2.2.2.1,.i z.2.2.2.2.2.2.1,.i z.2.2.2.2.2.2.2.1,.dead,.dead,.bool z.2.2.2.2.2.2.2.2.1,.str z.2.2.2.2.2.2.2.2.2]])))
   (none))⟩
 |_=>none
def waw:((Int×Int×TL×(List Nat)×Int×Int×Int×Int×Bool×ByteArray)⊕(Int×Int×TL×(List Nat)×Int×Int×Int×Int×Bool×ByteArray))→List AV:=(Sum.elim (fun x=>[.own 0,.fn 122 [.bp 1 0],.i x.1,.i x.2.1]) (fun x=>[.own 0,.fn 122 [.bp 1 0],.i x.1,.i x.2.1]))
def wa8:((Int×Int×TL×(List Nat)×Int×Int×Int×Int×Bool×ByteArray)⊕(Int×Int×TL×(List Nat)×Int×Int×Int×Int×Bool×ByteArray))→St:=(Sum.elim (fun x=>[.dep tTxn x.2.2.1 0 x.2.2.2.1,.box [.i x.2.2.2.2.1,.i x.2.2.2.2.2.1,.i x.2.2.2.2.2.2.1,.i x.2.2.2.2.2.2.2.1,.dead,.dead,.bool x.2.2.2.2.2.2.2.2.1,.str x.2.2.2.2.2.2.2.2.2]]) (fun x=>[.dep tTxn x.2.2.1 1 x.2.2.2.1,.box [.i x.2.2.2.2.1,.i x.2.2.2.2.2.1,.i x.2.2.2.2.2.2.1,.i x.2.2.2.2.2.2.2.1,.dead,.dead,.bool x.2.2.2.2.2.2.2.2.1,.str x.2.2.2.2.2.2.2.2.2]]))
def vzj:((Int×Int×TL×(List Nat)×Int×Int×Int×Int×Bool×ByteArray)⊕(Int×Int×TL×(List Nat)×Int×Int×Int×Int×Bool×ByteArray))→Out×List AV×St:=(Sum.elim (fun z=>((.exit 0),[.own 0,.fn 122 [.bp 1 0],.i z.1,.i z.2.1],[.dep tTxn z.2.2.1 0 z.2.2.2.1,.box [.i z.2.2.2.2.1,.i z.2.2.2.2.2.1,.i z.2.2.2.2.2.2.1,.i z.2.2.2.2.2.2.2.1,.dead,.dead,.bool z.2.2.2.2.2.2.2.2.1,.str z.2.2.2.2.2.2.2.2.2]])) (fun z=>((.exit 0),[.own 0,.fn 122 [.bp 1 0],.i z.1,.i z.2.1],[.dep tTxn z.2.2.1 1 z.2.2.2.1,.box [.i z.2.2.2.2.1,.i z.2.2.2.2.2.1,.i z.2.2.2.2.2.2.1,.i z.2.2.2.2.2.2.2.1,.dead,.dead,.bool z.2.2.2.2.2.2.2.2.1,.str z.2.2.2.2.2.2.2.2.2]])))
theorem wk8 (x:((Int×Int×TL×(List Nat)×Int×Int×Int×Int×Bool×ByteArray)⊕(Int×Int×TL×(List Nat)×Int×Int×Int×Int×Bool×ByteArray))):exec G93 ⟨2,42,vl0⟩ (vex f101 0) (vq6 ⟨2,42,vl0⟩ [0,1,5,6] []) (vhe (vf6 42) [0,1,5,6] (waw x)) (wa8 x)=vic x (Sum.elim (fun y=>some ⟨.norm,waw y,wa8 y⟩) fun z=>some ⟨(vzj z).1,(vzj z).2.1,(vzj z).2.2⟩):=by
 rcases x with x|x<;>kernel_rfl
theorem w2w:∀sp,(vl0 0)=some sp→v0x G93 ⟨2,42,vl0⟩ sp (vex f101 0):=by
 intro sp hsp vals st k r h
 cases hsp
 dsimp only at h
 rcases vcd h with⟨p,q,rfl,rfl,h⟩|h
 ·exact vee (fun x=>(n96n_bp0 x).p) waw wa8 vzj (fun z=>by rcases z with z|z<;>(intro h;cases h)) wk8 Fuel (.inl (p.2.2.1,p.2.2.2.1,q.1.1,q.1.2,q.2.1.1,q.2.1.2.1,q.2.1.2.2.1,q.2.1.2.2.2.1,q.2.1.2.2.2.2.2.2.1,q.2.1.2.2.2.2.2.2.2.1)) _ k r (fun z=>by rcases z with z|z<;>rfl) h
 rcases vcd h with⟨p,q,rfl,rfl,h⟩|h
 ·exact vee (fun x=>(n96n_bp0 x).p) waw wa8 vzj (fun z=>by rcases z with z|z<;>(intro h;cases h)) wk8 Fuel (.inr (p.2.2.1,p.2.2.2.1,q.1.1,q.1.2,q.2.1.1,q.2.1.2.1,q.2.1.2.2.1,q.2.1.2.2.2.1,q.2.1.2.2.2.2.2.2.1,q.2.1.2.2.2.2.2.2.2.1)) _ k r (fun z=>by rcases z with z|z<;>rfl) h
 cases h
def vl3:Nat→Option LoopSpec
 |0=>some ⟨[0,1,5,6],[],fun vals st k=>vag [.own 0,.fn 102 [.bp 1 0],.i,.i] [.mov tTxn 0,.box [.str]] vals st (fun p q=>vab vio Fuel (.inl (p.2.2.1,p.2.2.2.1,q.1.1,q.1.2,q.2.1.1)) (Sum.elim (fun z=>k (.exit 0) [.own 0,.fn 102 [.bp 1 0],.i z.1,.i z.2.1] [.dep tTxn z.2.2.1 0 z.2.2.2.1,.box [.str z.2.2.2.2]]) (fun z=>k (.exit 0) [.own 0,.fn 102 [.bp 1 0],.i z.1,.i z.2.1] [.dep tTxn z.2.2.1 1 z.2.2.2.1,.box [.str z.2.2.2.2]])))
   (vag [.own 0,.fn 102 [.bp 1 0],.i,.i] [.mov tTxn 1,.box [.str]] vals st (fun p q=>vab vio Fuel (.inr (p.2.2.1,p.2.2.2.1,q.1.1,q.1.2,q.2.1.1)) (Sum.elim (fun z=>k (.exit 0) [.own 0,.fn 102 [.bp 1 0],.i z.1,.i z.2.1] [.dep tTxn z.2.2.1 0 z.2.2.2.1,.box [.str z.2.2.2.2]]) (fun z=>k (.exit 0) [.own 0,.fn 102 [.bp 1 0],.i z.1,.i z.2.1] [.dep tTxn z.2.2.1 1 z.2.2.2.1,.box [.str z.2.2.2.2]])))
   (none))⟩
 |_=>none
def wbw:((Int×Int×TL×(List Nat)×ByteArray)⊕(Int×Int×TL×(List Nat)×ByteArray))→List AV:=(Sum.elim (fun x=>[.own 0,.fn 102 [.bp 1 0],.i x.1,.i x.2.1]) (fun x=>[.own 0,.fn 102 [.bp 1 0],.i x.1,.i x.2.1]))
def v83:((Int×Int×TL×(List Nat)×ByteArray)⊕(Int×Int×TL×(List Nat)×ByteArray))→St:=(Sum.elim (fun x=>[.dep tTxn x.2.2.1 0 x.2.2.2.1,.box [.str x.2.2.2.2]]) (fun x=>[.dep tTxn x.2.2.1 1 x.2.2.2.1,.box [.str x.2.2.2.2]]))
def v01:((Int×Int×TL×(List Nat)×ByteArray)⊕(Int×Int×TL×(List Nat)×ByteArray))→Out×List AV×St:=(Sum.elim (fun z=>((.exit 0),[.own 0,.fn 102 [.bp 1 0],.i z.1,.i z.2.1],[.dep tTxn z.2.2.1 0 z.2.2.2.1,.box [.str z.2.2.2.2]])) (fun z=>((.exit 0),[.own 0,.fn 102 [.bp 1 0],.i z.1,.i z.2.1],[.dep tTxn z.2.2.1 1 z.2.2.2.1,.box [.str z.2.2.2.2]])))
theorem wk0 (x:((Int×Int×TL×(List Nat)×ByteArray)⊕(Int×Int×TL×(List Nat)×ByteArray))):exec G93 ⟨2,42,vl3⟩ (vex f101 0) (vq6 ⟨2,42,vl3⟩ [0,1,5,6] []) (vhe (vf6 42) [0,1,5,6] (wbw x)) (v83 x)=vio x (Sum.elim (fun y=>some ⟨.norm,wbw y,v83 y⟩) fun z=>some ⟨(v01 z).1,(v01 z).2.1,(v01 z).2.2⟩):=by
 rcases x with x|x<;>kernel_rfl
theorem wzj:∀sp,(vl3 0)=some sp→v0x G93 ⟨2,42,vl3⟩ sp (vex f101 0):=by
 intro sp hsp vals st k r h
 cases hsp
 dsimp only at h
 rcases vcd h with⟨p,q,rfl,rfl,h⟩|h
 ·exact vee (fun x=>(n95n_bp0 x).p) wbw v83 v01 (fun z=>by rcases z with z|z<;>(intro h;cases h)) wk0 Fuel (.inl (p.2.2.1,p.2.2.2.1,q.1.1,q.1.2,q.2.1.1)) _ k r (fun z=>by rcases z with z|z<;>rfl) h
 rcases vcd h with⟨p,q,rfl,rfl,h⟩|h
 ·exact vee (fun x=>(n95n_bp0 x).p) wbw v83 v01 (fun z=>by rcases z with z|z<;>(intro h;cases h)) wk0 Fuel (.inr (p.2.2.1,p.2.2.2.1,q.1.1,q.1.2,q.2.1.1)) _ k r (fun z=>by rcases z with z|z<;>rfl) h
 cases h
def vl2:Nat→Option LoopSpec
 |0=>some ⟨[0,1,5,6],[],fun vals st k=>vag [.own 0,.fn 110 [.bp 1 0],.i,.i] [.mov tTxn 0,.box [.i]] vals st (fun p q=>vab vh6 Fuel (.inl (p.2.2.1,p.2.2.2.1,q.1.1,q.1.2,q.2.1.1)) (Sum.elim (fun z=>k (.exit 0) [.own 0,.fn 110 [.bp 1 0],.i z.1,.i z.2.1] [.dep tTxn z.2.2.1 0 z.2.2.2.1,.box [.i z.2.2.2.2]]) (fun z=>k (.exit 0) [.own 0,.fn 110 [.bp 1 0],.i z.1,.i z.2.1] [.dep tTxn z.2.2.1 1 z.2.2.2.1,.box [.i z.2.2.2.2]])))
   (vag [.own 0,.fn 110 [.bp 1 0],.i,.i] [.mov tTxn 1,.box [.i]] vals st (fun p q=>vab vh6 Fuel (.inr (p.2.2.1,p.2.2.2.1,q.1.1,q.1.2,q.2.1.1)) (Sum.elim (fun z=>k (.exit 0) [.own 0,.fn 110 [.bp 1 0],.i z.1,.i z.2.1] [.dep tTxn z.2.2.1 0 z.2.2.2.1,.box [.i z.2.2.2.2]]) (fun z=>k (.exit 0) [.own 0,.fn 110 [.bp 1 0],.i z.1,.i z.2.1] [.dep tTxn z.2.2.1 1 z.2.2.2.1,.box [.i z.2.2.2.2]])))
   (none))⟩
 |_=>none
def wag:((Int×Int×TL×(List Nat)×Int)⊕(Int×Int×TL×(List Nat)×Int))→List AV:=(Sum.elim (fun x=>[.own 0,.fn 110 [.bp 1 0],.i x.1,.i x.2.1]) (fun x=>[.own 0,.fn 110 [.bp 1 0],.i x.1,.i x.2.1]))
def wcf:((Int×Int×TL×(List Nat)×Int)⊕(Int×Int×TL×(List Nat)×Int))→St:=(Sum.elim (fun x=>[.dep tTxn x.2.2.1 0 x.2.2.2.1,.box [.i x.2.2.2.2]]) (fun x=>[.dep tTxn x.2.2.1 1 x.2.2.2.1,.box [.i x.2.2.2.2]]))
def v2r:((Int×Int×TL×(List Nat)×Int)⊕(Int×Int×TL×(List Nat)×Int))→Out×List AV×St:=(Sum.elim (fun z=>((.exit 0),[.own 0,.fn 110 [.bp 1 0],.i z.1,.i z.2.1],[.dep tTxn z.2.2.1 0 z.2.2.2.1,.box [.i z.2.2.2.2]])) (fun z=>((.exit 0),[.own 0,.fn 110 [.bp 1 0],.i z.1,.i z.2.1],[.dep tTxn z.2.2.1 1 z.2.2.2.1,.box [.i z.2.2.2.2]])))
theorem wkc (x:((Int×Int×TL×(List Nat)×Int)⊕(Int×Int×TL×(List Nat)×Int))):exec G93 ⟨2,42,vl2⟩ (vex f101 0) (vq6 ⟨2,42,vl2⟩ [0,1,5,6] []) (vhe (vf6 42) [0,1,5,6] (wag x)) (wcf x)=vh6 x (Sum.elim (fun y=>some ⟨.norm,wag y,wcf y⟩) fun z=>some ⟨(v2r z).1,(v2r z).2.1,(v2r z).2.2⟩):=by
 rcases x with x|x<;>kernel_rfl
theorem w2z:∀sp,(vl2 0)=some sp→v0x G93 ⟨2,42,vl2⟩ sp (vex f101 0):=by
 intro sp hsp vals st k r h
 cases hsp
 dsimp only at h
 rcases vcd h with⟨p,q,rfl,rfl,h⟩|h
 ·exact vee (fun x=>(n97n_bp0 x).p) wag wcf v2r (fun z=>by rcases z with z|z<;>(intro h;cases h)) wkc Fuel (.inl (p.2.2.1,p.2.2.2.1,q.1.1,q.1.2,q.2.1.1)) _ k r (fun z=>by rcases z with z|z<;>rfl) h
 rcases vcd h with⟨p,q,rfl,rfl,h⟩|h
 ·exact vee (fun x=>(n97n_bp0 x).p) wag wcf v2r (fun z=>by rcases z with z|z<;>(intro h;cases h)) wkc Fuel (.inr (p.2.2.1,p.2.2.2.1,q.1.1,q.1.2,q.2.1.1)) _ k r (fun z=>by rcases z with z|z<;>rfl) h
 cases h
theorem vmd:vad prog 101 vbc:=by
 refine told G93_ok follows func101 (c:=f101.body.getD .skip) (by kernel_rfl) ?_
 intro args s k r hk
 unfold vbc at hk
 rcases vcj hk with⟨p,q,rfl,rfl⟩|hk
 ·exact⟨vl0,(n96n_p q.1 q.2.1.1 q.2.1.2.1 q.2.1.2.2.1 q.2.1.2.2.2.1 q.2.1.2.2.2.2.2.2.1 q.2.1.2.2.2.2.2.2.2.1).p.map2 _ _,by unfold vbc;rw [wuh];kernel_rfl,vaa (ids:=[0]) (by kernel_rfl) (by kernel_rfl) ⟨w2w,trivial⟩⟩
 rcases vcj hk with⟨p,q,rfl,rfl⟩|hk
 ·exact⟨vl3,(n95n_p q.1 q.2.1.1).p.map2 _ _,by unfold vbc;rw [wp5];kernel_rfl,vaa (ids:=[0]) (by kernel_rfl) (by kernel_rfl) ⟨wzj,trivial⟩⟩
 rcases vcj hk with⟨p,q,rfl,rfl⟩|hk
 ·exact⟨vl2,(n97n_p q.1 q.2.1.1).p.map2 _ _,by unfold vbc;rw [wux];kernel_rfl,vaa (ids:=[0]) (by kernel_rfl) (by kernel_rfl) ⟨w2z,trivial⟩⟩
 cases hk
def G94:Glob:=G93.add 101 vbc
theorem G94_ok:GlobOk prog G94:=G93_ok.add ⟨f101,func101,by kernel_rfl,by kernel_rfl⟩ vmd
def wiz:wo2→List AV:=fun x=>[.bp 0 0,.bp 1 0,.bp 2 0,.bp 3 0,.own 4,.i x.1,.i x.2.1]
def we7:wo2→St:=fun x=>let xh:=x.2.2.2.2;let xi:=xh.2.2.2.2;let xj:=xi.2.2.2.2;let xk:=xj.2.2.2.2;let xl:=xk.2.2.2.2;[.box [.i x.2.2.1,.i x.2.2.2.1,.i xh.1,.i xh.2.1,.dead,.dead,.bool xh.2.2.1,.str xh.2.2.2.1],.box [.own 5,.own 6,.own 7,.i xi.1,.i xi.2.1],.box [.own 8,.own 9,.own 4,.i xi.2.2.1,.i xi.2.2.2.1],.box [.i xj.1,.i xj.2.1,.i xj.2.2.1,.i xj.2.2.2.1,.own 10,.own 11,.bool xk.1,.str xk.2.1],.dep tTxn xk.2.2.1 0 [],.arr tVersion xk.2.2.2.1,.dep tTxn xl.1 0 [],.dep tTxn xl.2.1 0 [],.arr tVersion xl.2.2.1,.dep tTxn xl.2.2.2.1 0 [],.arr tRange xl.2.2.2.2.1,.arr tWrite xl.2.2.2.2.2]
def v46:q94T→List AV:=fun x=>[.bp 0 0,.bp 1 0,.bp 2 0,.bp 3 0]
def v4w:q94T→St:=fun x=>let xh:=x.2.2.2.2;let xi:=xh.2.2.2.2;let xj:=xi.2.2.2.2;let xk:=xj.2.2.2.2;[.box [.i x.1,.i x.2.1,.i x.2.2.1,.i x.2.2.2.1,.dead,.dead,.bool xh.1,.str xh.2.1],.box [.own 4,.own 5,.own 6,.i xh.2.2.1,.i xh.2.2.2.1],.box [.own 7,.own 8,.own 9,.i xi.1,.i xi.2.1],.box [.i xi.2.2.1,.i xi.2.2.2.1,.i xj.1,.i xj.2.1,.own 10,.own 11,.bool xj.2.2.1,.str xj.2.2.2.1],.arr tVersion xk.1,.dep tTxn xk.2.1 0 [],.dep tTxn xk.2.2.1 0 [],.arr tVersion xk.2.2.2.1,.dep tTxn xk.2.2.2.2.1 0 [],.dep tTxn xk.2.2.2.2.2.1 0 [],.arr tRange xk.2.2.2.2.2.2.1,.arr tWrite xk.2.2.2.2.2.2.2]
def vpq:q95T→Out×List AV×St:=fun z=>let zh:=z.2.2.2.2;let zi:=zh.2.2.2.2;let zj:=zi.2.2.2.2;(.ret,[.bp 0 0,.bp 1 0,.bp 2 0,.bp 3 0],[.box [.i z.1,.i z.2.1,.i z.2.2.1,.i z.2.2.2.1,.dead,.dead,.bool zh.1,.str zh.2.1],.box [.own 4,.own 5,.own 6,.i zh.2.2.1,.i zh.2.2.2.1],.box [.own 4,.own 5,.own 6,.i zi.1,.i zi.2.1],.box [.i zi.2.2.1,.i zi.2.2.2.1,.i zj.1,.i zj.2.1,.dead,.dead,.bool zj.2.2.1,.str zj.2.2.2.1],.arr tVersion zj.2.2.2.2.1,.dep tTxn zj.2.2.2.2.2.1 0 [],.dep tTxn zj.2.2.2.2.2.2 0 []])
def v5d:q20T→List AV:=fun x=>[.bp 0 0,.bp 1 0,.bp 2 0,.bp 3 0,.bp 4 0]
def v4c:q20T→St:=fun x=>let xh:=x.2.2.2.2;let xi:=xh.2.2.2.2;let xj:=xi.2.2.2.2;let xk:=xj.2.2.2.2;let xl:=xk.2.2.2.2;[.box [.lst tVersion x.1,.lst tTxn x.2.1,.lst tTxn x.2.2.1,.i x.2.2.2.1,.i xh.1],.box [.i xh.2.1,.i xh.2.2.1,.i xh.2.2.2.1,.i xi.1,.lst tRange xi.2.1,.lst tWrite xi.2.2.1,.bool xi.2.2.2.1,.str xj.1],.box [.nilS,.nilS,.nilS,.i xj.2.1,.i xj.2.2.1],.box [.own 5,.own 6,.own 7,.i xj.2.2.2.1,.i xk.1],.box [.i xk.2.1,.i xk.2.2.1,.i xk.2.2.2.1,.i xl.1,.own 8,.own 9,.bool xl.2.1,.str xl.2.2.1],.arr tVersion xl.2.2.2.1,.dep tTxn xl.2.2.2.2.1 0 [],.dep tTxn xl.2.2.2.2.2.1 0 [],.arr tRange xl.2.2.2.2.2.2.1,.arr tWrite xl.2.2.2.2.2.2.2]
def vpp:q95T→Out×List AV×St:=fun z=>let zh:=z.2.2.2.2;let zi:=zh.2.2.2.2;let zj:=zi.2.2.2.2;(.ret,[.dead,.bp 0 0,.bp 1 0,.bp 2 0,.bp 3 0],[.box [.i z.1,.i z.2.1,.i z.2.2.1,.i z.2.2.2.1,.dead,.dead,.bool zh.1,.str zh.2.1],.box [.own 4,.own 5,.own 6,.i zh.2.2.1,.i zh.2.2.2.1],.box [.own 4,.own 5,.own 6,.i zi.1,.i zi.2.1],.box [.i zi.2.2.1,.i zi.2.2.2.1,.i zj.1,.i zj.2.1,.dead,.dead,.bool zj.2.2.1,.str zj.2.2.2.1],.arr tVersion zj.2.2.2.2.1,.dep tTxn zj.2.2.2.2.2.1 0 [],.dep tTxn zj.2.2.2.2.2.2 0 []])
def vqm:Nat→Option LoopSpec
 |0=>some (lpS [3,4,5,6,46,47,48] [none,none,none,none,none,none,none,none,none,none,none,none,none,none,none,some tVersion,some tTxn,some tTxn] [.bp 0 0,.bp 1 0,.bp 2 0,.bp 3 0,.own 4,.i,.i] [.box [.i,.i,.i,.i,.dead,.dead,.bool,.str],.box [.own 5,.own 6,.own 7,.i,.i],.box [.own 8,.own 9,.own 4,.i,.i],.box [.i,.i,.i,.i,.own 10,.own 11,.bool,.str],.dep tTxn 0,.arr tVersion,.dep tTxn 0,.dep tTxn 0,.arr tVersion,.dep tTxn 0,.arr tRange,.arr tWrite] vpx (fun p q=>(p.2.2.2.2.2.1,p.2.2.2.2.2.2.1,q.1.1,q.1.2.1,q.1.2.2.1,q.1.2.2.2.1,q.1.2.2.2.2.2.2.1,q.1.2.2.2.2.2.2.2.1,q.2.1.2.2.2.1,q.2.1.2.2.2.2.1,q.2.2.1.2.2.2.1,q.2.2.1.2.2.2.2.1,q.2.2.2.1.1,q.2.2.2.1.2.1,q.2.2.2.1.2.2.1,q.2.2.2.1.2.2.2.1,q.2.2.2.1.2.2.2.2.2.2.1,q.2.2.2.1.2.2.2.2.2.2.2.1,q.2.2.2.2.1,q.2.2.2.2.2.1,q.2.2.2.2.2.2.1,q.2.2.2.2.2.2.2.1,q.2.2.2.2.2.2.2.2.1,q.2.2.2.2.2.2.2.2.2.1,q.2.2.2.2.2.2.2.2.2.2.1,q.2.2.2.2.2.2.2.2.2.2.2.1)) (fun k=>(onE (exZ (.exit 0) wiz we7) k)))
 |5000007=>some (ctS [3,4,5,6] [none,none,none,none,none,none,none,none,some tRange,some tWrite,none,none,some tVersion,some tTxn,some tTxn] [.bp 0 0,.bp 1 0,.bp 2 0,.bp 3 0] [.box [.i,.i,.i,.i,.dead,.dead,.bool,.str],.box [.own 4,.own 5,.own 6,.i,.i],.box [.own 7,.own 8,.own 9,.i,.i],.box [.i,.i,.i,.i,.own 10,.own 11,.bool,.str],.arr tVersion,.dep tTxn 0,.dep tTxn 0,.arr tVersion,.dep tTxn 0,.dep tTxn 0,.arr tRange,.arr tWrite] vfl (fun p q=>(q.1.1,q.1.2.1,q.1.2.2.1,q.1.2.2.2.1,q.1.2.2.2.2.2.2.1,q.1.2.2.2.2.2.2.2.1,q.2.1.2.2.2.1,q.2.1.2.2.2.2.1,q.2.2.1.2.2.2.1,q.2.2.1.2.2.2.2.1,q.2.2.2.1.1,q.2.2.2.1.2.1,q.2.2.2.1.2.2.1,q.2.2.2.1.2.2.2.1,q.2.2.2.1.2.2.2.2.2.2.1,q.2.2.2.1.2.2.2.2.2.2.2.1,q.2.2.2.2.1,q.2.2.2.2.2.1,q.2.2.2.2.2.2.1,q.2.2.2.2.2.2.2.1,q.2.2.2.2.2.2.2.2.1,q.2.2.2.2.2.2.2.2.2.1,q.2.2.2.2.2.2.2.2.2.2.1,q.2.2.2.2.2.2.2.2.2.2.2.1)) (fun k=>(onE vpq k)))
 |5000005=>some (ctS [2,3,4,5,6] [] [.bp 0 0,.bp 1 0,.bp 2 0,.bp 3 0,.bp 4 0] [.box [.lst tVersion,.lst tTxn,.lst tTxn,.i,.i],.box [.i,.i,.i,.i,.lst tRange,.lst tWrite,.bool,.str],.box [.nilS,.nilS,.nilS,.i,.i],.box [.own 5,.own 6,.own 7,.i,.i],.box [.i,.i,.i,.i,.own 8,.own 9,.bool,.str],.arr tVersion,.dep tTxn 0,.dep tTxn 0,.arr tRange,.arr tWrite] vdi (fun p q=>(q.1.1,q.1.2.1,q.1.2.2.1,q.1.2.2.2.1,q.1.2.2.2.2.1,q.2.1.1,q.2.1.2.1,q.2.1.2.2.1,q.2.1.2.2.2.1,q.2.1.2.2.2.2.1,q.2.1.2.2.2.2.2.1,q.2.1.2.2.2.2.2.2.1,q.2.1.2.2.2.2.2.2.2.1,q.2.2.1.2.2.2.1,q.2.2.1.2.2.2.2.1,q.2.2.2.1.2.2.2.1,q.2.2.2.1.2.2.2.2.1,q.2.2.2.2.1.1,q.2.2.2.2.1.2.1,q.2.2.2.2.1.2.2.1,q.2.2.2.2.1.2.2.2.1,q.2.2.2.2.1.2.2.2.2.2.2.1,q.2.2.2.2.1.2.2.2.2.2.2.2.1,q.2.2.2.2.2.1,q.2.2.2.2.2.2.1,q.2.2.2.2.2.2.2.1,q.2.2.2.2.2.2.2.2.1,q.2.2.2.2.2.2.2.2.2.1)) (fun k=>(onE vpp k)))
 |2000011=>some ⟨[0,2,4,6,8,10,12,14,17,18,20,22,24],[],fun _ _ _=>none⟩
 |1000003=>some ⟨[9],[],fun _ _ _=>none⟩
 |_=>none
theorem w0c:LpAt G94 ⟨0,80,vqm⟩ f54 0:=
 val rfl (fun x=>(n23n_bp0 x).p) wiz we7 (exZ (.exit 0) wiz we7) (fun _ _=>⟨rfl,rfl⟩) (fun z=>by(intro h;cases h)) (fun _ _=>rfl) (fun x=>by kernel_rfl)
theorem v4m:CtAt G94 ⟨0,80,vqm⟩ f54 5000007:=
 vby rfl (fun x=>(n23n_jp5000007 x).p) v46 v4w vpq (fun _ _=>⟨rfl,rfl⟩) (fun _ _=>rfl) (fun x=>by kernel_rfl)
theorem v4e:CtAt G94 ⟨0,80,vqm⟩ f54 5000005:=
 vby rfl (fun x=>(n23n_jp5000005 x).p) v5d v4c vpp (fun _ _=>⟨rfl,rfl⟩) (fun _ _=>rfl) (fun x=>by kernel_rfl)
theorem w9x:vad prog 54 w5t:=
 vap G94_ok follows (f54.body.getD .skip) func54 (by kernel_rfl) fun p q=>⟨vqm,(n23n_p ..).p.map _,by rw [wwb];kernel_rfl,vaa (ids:=[0,5000007,5000005]) (by kernel_rfl) (by kernel_rfl) ⟨w0c,⟨v4m,⟨v4e,trivial⟩⟩⟩⟩
def G95:Glob:=G94.add 54 w5t
theorem G95_ok:GlobOk prog G95:=G94_ok.add ⟨f54,func54,by kernel_rfl,by kernel_rfl⟩ w9x
def wo3:Nat→Option LoopSpec
 |_=>none
theorem xcr:vad prog 31 w5e:=
 vap G95_ok follows (f31.body.getD .skip) func31 (by kernel_rfl) fun p q=>⟨wo3,(n20n_p ..).p.map _,by rw [wvg];kernel_rfl,vaa (ids:=[]) (by kernel_rfl) (by kernel_rfl) trivial⟩
def G96:Glob:=G95.add 31 w5e
theorem G96_ok:GlobOk prog G96:=G95_ok.add ⟨f31,func31,by kernel_rfl,by kernel_rfl⟩ xcr
def wfj:(ByteArray×Int×Int×Int×Int×Int×Int×RL×WL×Bool×ByteArray×Int×Int×Int×Int×Int×Int×Int×Int×Bool×ByteArray×TL×TL×TL×(List Nat)×VL×TL×TL×VL×TL×RL×WL)→List AV:=fun x=>[.str x.1,.bp 0 0,.bp 1 0,.bp 2 0,.bp 3 0,.own 4,.own 5,.own 6,.i x.2.1,.i x.2.2.1]
def wgx:(ByteArray×Int×Int×Int×Int×Int×Int×RL×WL×Bool×ByteArray×Int×Int×Int×Int×Int×Int×Int×Int×Bool×ByteArray×TL×TL×TL×(List Nat)×VL×TL×TL×VL×TL×RL×WL)→St:=fun x=>let xh:=x.2.2.2.2;let xi:=xh.2.2.2.2;let xj:=xi.2.2.2.2;let xk:=xj.2.2.2.2;let xl:=xk.2.2.2.2;let xm:=xl.2.2.2.2;[.box [.i x.2.2.2.1,.i xh.1,.i xh.2.1,.i xh.2.2.1,.lst tRange xh.2.2.2.1,.lst tWrite xi.1,.bool xi.2.1,.str xi.2.2.1],.box [.own 7,.own 8,.own 9,.i xi.2.2.2.1,.i xj.1],.box [.own 10,.own 11,.own 6,.i xj.2.1,.i xj.2.2.1],.box [.i xj.2.2.2.1,.i xk.1,.i xk.2.1,.i xk.2.2.1,.own 12,.own 13,.bool xk.2.2.2.1,.str xl.1],.dep tTxn xl.2.1 0 [],.dep tTxn xl.2.2.1 0 [],.dep tTxn xl.2.2.2.1 0 xm.1,.arr tVersion xm.2.1,.dep tTxn xm.2.2.1 0 [],.dep tTxn xm.2.2.2.1 0 [],.arr tVersion xm.2.2.2.2.1,.dep tTxn xm.2.2.2.2.2.1 0 [],.arr tRange xm.2.2.2.2.2.2.1,.arr tWrite xm.2.2.2.2.2.2.2]
def v4u:q74T→List AV:=fun x=>[.str x.1,.bp 0 0,.bp 1 0,.bp 2 0,.bp 3 0]
def v4n:q74T→St:=fun x=>let xh:=x.2.2.2.2;let xi:=xh.2.2.2.2;let xj:=xi.2.2.2.2;let xk:=xj.2.2.2.2;let xl:=xk.2.2.2.2;[.box [.i x.2.1,.i x.2.2.1,.i x.2.2.2.1,.i xh.1,.lst tRange xh.2.1,.lst tWrite xh.2.2.1,.bool xh.2.2.2.1,.str xi.1],.box [.own 4,.own 5,.own 6,.i xi.2.1,.i xi.2.2.1],.box [.own 7,.own 8,.own 9,.i xi.2.2.2.1,.i xj.1],.box [.i xj.2.1,.i xj.2.2.1,.i xj.2.2.2.1,.i xk.1,.own 10,.own 11,.bool xk.2.1,.str xk.2.2.1],.arr tVersion xk.2.2.2.1,.dep tTxn xl.1 0 [],.dep tTxn xl.2.1 0 [],.arr tVersion xl.2.2.1,.dep tTxn xl.2.2.2.1 0 [],.dep tTxn xl.2.2.2.2.1 0 [],.arr tRange xl.2.2.2.2.2.1,.arr tWrite xl.2.2.2.2.2.2]
def vqh:q75T→Out×List AV×St:=fun z=>let zh:=z.2.2.2.2;let zi:=zh.2.2.2.2;let zj:=zi.2.2.2.2;let zk:=zj.2.2.2.2;(.ret,[.str z.1,.bp 0 0,.bp 1 0,.bp 2 0,.bp 3 0],[.box [.i z.2.1,.i z.2.2.1,.i z.2.2.2.1,.i zh.1,.lst tRange zh.2.1,.lst tWrite zh.2.2.1,.bool zh.2.2.2.1,.str zi.1],.box [.own 4,.own 5,.own 6,.i zi.2.1,.i zi.2.2.1],.box [.own 4,.own 5,.own 6,.i zi.2.2.2.1,.i zj.1],.box [.i zj.2.1,.i zj.2.2.1,.i zj.2.2.2.1,.i zk.1,.dead,.dead,.bool zk.2.1,.str zk.2.2.1],.arr tVersion zk.2.2.2.1,.dep tTxn zk.2.2.2.2.1 0 [],.dep tTxn zk.2.2.2.2.2 0 []])
def vvv:Nat→Option LoopSpec
 |0=>some (lpS [2,4,6,7,8,9,10,30,31,32] [none,none,none,none,none,some tTxn,some tTxn,none,none,none,none,none,none,none,none,none,none,none,some tVersion,some tTxn,some tTxn] [.str,.bp 0 0,.bp 1 0,.bp 2 0,.bp 3 0,.own 4,.own 5,.own 6,.i,.i] [.box [.i,.i,.i,.i,.lst tRange,.lst tWrite,.bool,.str],.box [.own 7,.own 8,.own 9,.i,.i],.box [.own 10,.own 11,.own 6,.i,.i],.box [.i,.i,.i,.i,.own 12,.own 13,.bool,.str],.dep tTxn 0,.dep tTxn 0,.mov tTxn 0,.arr tVersion,.dep tTxn 0,.dep tTxn 0,.arr tVersion,.dep tTxn 0,.arr tRange,.arr tWrite] vov (fun p q=>(p.1,p.2.2.2.2.2.2.2.2.1,p.2.2.2.2.2.2.2.2.2.1,q.1.1,q.1.2.1,q.1.2.2.1,q.1.2.2.2.1,q.1.2.2.2.2.1,q.1.2.2.2.2.2.1,q.1.2.2.2.2.2.2.1,q.1.2.2.2.2.2.2.2.1,q.2.1.2.2.2.1,q.2.1.2.2.2.2.1,q.2.2.1.2.2.2.1,q.2.2.1.2.2.2.2.1,q.2.2.2.1.1,q.2.2.2.1.2.1,q.2.2.2.1.2.2.1,q.2.2.2.1.2.2.2.1,q.2.2.2.1.2.2.2.2.2.2.1,q.2.2.2.1.2.2.2.2.2.2.2.1,q.2.2.2.2.1,q.2.2.2.2.2.1,q.2.2.2.2.2.2.1.1,q.2.2.2.2.2.2.1.2,q.2.2.2.2.2.2.2.1,q.2.2.2.2.2.2.2.2.1,q.2.2.2.2.2.2.2.2.2.1,q.2.2.2.2.2.2.2.2.2.2.1,q.2.2.2.2.2.2.2.2.2.2.2.1,q.2.2.2.2.2.2.2.2.2.2.2.2.1,q.2.2.2.2.2.2.2.2.2.2.2.2.2.1)) (fun k=>(onE (exZ (.exit 0) wfj wgx) k)))
 |5000004=>some (ctS [2,4,6,7,8] [none,none,none,none,none,none,none,none,none,none,none,none,none,some tVersion,some tTxn,some tTxn] [.str,.bp 0 0,.bp 1 0,.bp 2 0,.bp 3 0] [.box [.i,.i,.i,.i,.lst tRange,.lst tWrite,.bool,.str],.box [.own 4,.own 5,.own 6,.i,.i],.box [.own 7,.own 8,.own 9,.i,.i],.box [.i,.i,.i,.i,.own 10,.own 11,.bool,.str],.arr tVersion,.dep tTxn 0,.dep tTxn 0,.arr tVersion,.dep tTxn 0,.dep tTxn 0,.arr tRange,.arr tWrite] vb1 (fun p q=>(p.1,q.1.1,q.1.2.1,q.1.2.2.1,q.1.2.2.2.1,q.1.2.2.2.2.1,q.1.2.2.2.2.2.1,q.1.2.2.2.2.2.2.1,q.1.2.2.2.2.2.2.2.1,q.2.1.2.2.2.1,q.2.1.2.2.2.2.1,q.2.2.1.2.2.2.1,q.2.2.1.2.2.2.2.1,q.2.2.2.1.1,q.2.2.2.1.2.1,q.2.2.2.1.2.2.1,q.2.2.2.1.2.2.2.1,q.2.2.2.1.2.2.2.2.2.2.1,q.2.2.2.1.2.2.2.2.2.2.2.1,q.2.2.2.2.1,q.2.2.2.2.2.1,q.2.2.2.2.2.2.1,q.2.2.2.2.2.2.2.1,q.2.2.2.2.2.2.2.2.1,q.2.2.2.2.2.2.2.2.2.1,q.2.2.2.2.2.2.2.2.2.2.1,q.2.2.2.2.2.2.2.2.2.2.2.1)) (fun k=>(onE vqh k)))
 |_=>none
theorem w23:LpAt G96 ⟨0,64,vvv⟩ f30 0:=
 val rfl (fun x=>(n12n_bp0 x).p) wfj wgx (exZ (.exit 0) wfj wgx) (fun _ _=>⟨rfl,rfl⟩) (fun z=>by(intro h;cases h)) (fun _ _=>rfl) (fun x=>by kernel_rfl)
theorem v4r:CtAt G96 ⟨0,64,vvv⟩ f30 5000004:=
 vby rfl (fun x=>(n12n_jp5000004 x).p) v4u v4n vqh (fun _ _=>⟨rfl,rfl⟩) (fun _ _=>rfl) (fun x=>by kernel_rfl)
theorem xbm:vad prog 30 w3q:=
 vap G96_ok follows (f30.body.getD .skip) func30 (by kernel_rfl) fun p q=>⟨vvv,(n12n_p ..).p.map _,by rw [wyj];kernel_rfl,vaa (ids:=[0,5000004]) (by kernel_rfl) (by kernel_rfl) ⟨w23,⟨v4r,trivial⟩⟩⟩
def G97:Glob:=G96.add 30 w3q
theorem G97_ok:GlobOk prog G97:=G96_ok.add ⟨f30,func30,by kernel_rfl,by kernel_rfl⟩ xbm
def wnl:Nat→Option LoopSpec
 |_=>none
theorem xa5:vad prog 32 w3x:=
 vap G97_ok follows (f32.body.getD .skip) func32 (by kernel_rfl) fun p q=>⟨wnl,(n08n_p ..).p.map _,by rw [wt7];kernel_rfl,vaa (ids:=[]) (by kernel_rfl) (by kernel_rfl) trivial⟩
def G98:Glob:=G97.add 32 w3x
theorem G98_ok:GlobOk prog G98:=G97_ok.add ⟨f32,func32,by kernel_rfl,by kernel_rfl⟩ xa5
def wi3:q78T→List AV:=fun x=>[.i x.1,.lst tTxn x.2.1,.i x.2.2.1,.i x.2.2.2]
def wgn:q78T→St:=fun x=>[]
def v78:Nat→Option LoopSpec
 |0=>some (lpS [5,10,11,12] [] [.i,.lst tTxn,.i,.i] [] vpz (fun p q=>(p.1,p.2.1,p.2.2.1,p.2.2.2.1)) (fun k=>(onE (exZ (.exit 0) wi3 wgn) k)))
 |_=>none
theorem w0t:LpAt G98 ⟨0,22,v78⟩ f43 0:=
 val rfl (fun x=>(n13n_bp0 x).p) wi3 wgn (exZ (.exit 0) wi3 wgn) (fun _ _=>⟨rfl,rfl⟩) (fun z=>by(intro h;cases h)) (fun _ _=>rfl) (fun x=>by kernel_rfl)
theorem xcj:vad prog 43 w40:=
 vap G98_ok follows (f43.body.getD .skip) func43 (by kernel_rfl) fun p q=>⟨v78,(n13n_p ..).p.map _,by rw [wr2];kernel_rfl,vaa (ids:=[0]) (by kernel_rfl) (by kernel_rfl) ⟨w0t,trivial⟩⟩
def G99:Glob:=G98.add 43 w40
theorem G99_ok:GlobOk prog G99:=G98_ok.add ⟨f43,func43,by kernel_rfl,by kernel_rfl⟩ xcj
def wji:q26T→List AV:=fun x=>[.lst tVersion x.1,.str x.2.1,.i x.2.2.1,.i x.2.2.2.1,.lst tVersion x.2.2.2.2.1,.i x.2.2.2.2.2.1,.i x.2.2.2.2.2.2]
def whj:q26T→St:=fun x=>[]
def v73:Nat→Option LoopSpec
 |0=>some (lpS [0,1,2,7,10,11,12] [] [.lst tVersion,.str,.i,.i,.lst tVersion,.i,.i] [] vqc (fun p q=>(p.1,p.2.1,p.2.2.1,p.2.2.2.1,p.2.2.2.2.1,p.2.2.2.2.2.1,p.2.2.2.2.2.2.1)) (fun k=>(onE (exZ (.exit 0) wji whj) k)))
 |2000005=>some ⟨[0,2,4,6,8,10,12,14,16,18,20,22,24,26,28,30,32,34,36,38,40,42,44,46],[],fun _ _ _=>none⟩
 |_=>none
theorem w3c:LpAt G99 ⟨0,44,v73⟩ f177 0:=
 val rfl (fun x=>(n44n_bp0 x).p) wji whj (exZ (.exit 0) wji whj) (fun _ _=>⟨rfl,rfl⟩) (fun z=>by(intro h;cases h)) (fun _ _=>rfl) (fun x=>by kernel_rfl)
theorem xbv:vad prog 177 w4m:=
 vap G99_ok follows (f177.body.getD .skip) func177 (by kernel_rfl) fun p q=>⟨v73,(n44n_p ..).p.map _,by rw [wts];kernel_rfl,vaa (ids:=[0]) (by kernel_rfl) (by kernel_rfl) ⟨w3c,trivial⟩⟩
def G100:Glob:=G99.add 177 w4m
theorem G100_ok:GlobOk prog G100:=G99_ok.add ⟨f177,func177,by kernel_rfl,by kernel_rfl⟩ xbv
def wib:q73T→List AV:=fun x=>[.str x.1,.i x.2.1,.own 1,.i x.2.2.1,.i x.2.2.2.1]
def whi:q73T→St:=fun x=>[.box [.own 1],.arr tVersion x.2.2.2.2]
def v72:Nat→Option LoopSpec
 |0=>some (lpS [0,4,7,8,9] [] [.str,.i,.own 1,.i,.i] [.box [.own 1],.arr tVersion] vo4 (fun p q=>(p.1,p.2.1,p.2.2.2.1,p.2.2.2.2.1,q.2.1)) (fun k=>(onE (exZ (.exit 0) wib whi) k)))
 |_=>none
theorem w3g:LpAt G100 ⟨2,21,v72⟩ f178 0:=
 val rfl (fun x=>(n29n_bp0 x).p) wib whi (exZ (.exit 0) wib whi) (fun _ _=>⟨rfl,rfl⟩) (fun z=>by(intro h;cases h)) (fun _ _=>rfl) (fun x=>by kernel_rfl)
theorem xbk:vad prog 178 w3t:=
 vap G100_ok follows (f178.body.getD .skip) func178 (by kernel_rfl) fun p q=>⟨v72,(n29n_p ..).p.map _,by rw [wqz];kernel_rfl,vaa (ids:=[0]) (by kernel_rfl) (by kernel_rfl) ⟨w3g,trivial⟩⟩
def G101:Glob:=G100.add 178 w3t
theorem G101_ok:GlobOk prog G101:=G100_ok.add ⟨f178,func178,by kernel_rfl,by kernel_rfl⟩ xbk
def vh7:q29T→List AV:=fun x=>[.lst tVersion x.1,.i x.2.1,.bp 0 0,.bp 1 0,.lst tVersion x.2.2.1,.i x.2.2.2.1,.i x.2.2.2.2.1,.bool x.2.2.2.2.2.1]
def vhw:q29T→St:=fun x=>let xh:=x.2.2.2.2;[.box [.own 2],.box [.str xh.2.2.1,.str xh.2.2.2.1,.bool xh.2.2.2.2.1,.i xh.2.2.2.2.2.1],.arr tVersion xh.2.2.2.2.2.2]
def wgj:q28T→List AV:=fun x=>[.lst tVersion x.1,.i x.2.1,.bp 0 0,.lst tVersion x.2.2.1,.i x.2.2.2.1,.i x.2.2.2.2.1]
def wfs:q28T→St:=fun x=>[.box [.own 1],.arr tVersion x.2.2.2.2.2]
def wgz:q90T→List AV:=fun x=>[.i x.1,.fn 178 [.bp 0 0],.own 1,.own 2,.i x.2.1,.i x.2.2.1]
def wg7:q90T→St:=fun x=>[.box [.own 2],.arr tVersion x.2.2.2.1,.arr tVersion x.2.2.2.2]
def vqn:Nat→Option LoopSpec
 |15000006=>some (ctS [0,1,5,7,12,13,14,31] [none,none,none,none,none,none,none,none,some tVersion] [.lst tVersion,.i,.bp 0 0,.bp 1 0,.lst tVersion,.i,.i,.bool] [.box [.own 2],.box [.str,.str,.bool,.i],.arr tVersion] vcz (fun p q=>(p.1,p.2.1,p.2.2.2.2.1,p.2.2.2.2.2.1,p.2.2.2.2.2.2.1,p.2.2.2.2.2.2.2.1,q.2.1.1,q.2.1.2.1,q.2.1.2.2.1,q.2.1.2.2.2.1,q.2.2.1)) (fun k=>(onE (exZ .norm vh7 vhw) k)))
 |0=>some (lpS [0,1,5,12,13,14] [none,none,none,none,none,none,some tVersion] [.lst tVersion,.i,.bp 0 0,.lst tVersion,.i,.i] [.box [.own 1],.arr tVersion] vo7 (fun p q=>(p.1,p.2.1,p.2.2.2.1,p.2.2.2.2.1,p.2.2.2.2.2.1,q.2.1)) (fun k=>(onE (exZ (.exit 0) wgj wfs) k)))
 |2=>some (lpS [1,8,9,38,39,40] [none,none,some tVersion,some tVersion,none,none,some tVersion] [.i,.fn 178 [.bp 0 0],.own 1,.own 2,.i,.i] [.box [.own 2],.arr tVersion,.arr tVersion] vo1 (fun p q=>(p.1,p.2.2.2.2.1,p.2.2.2.2.2.1,q.2.1,q.2.2.1)) (fun k=>(onE (exZ (.exit 2) wgz wg7) k)))
 |_=>none
theorem v27:CtAt G101 ⟨0,66,vqn⟩ f111 15000006:=
 vby rfl (fun x=>(n28n_jp15000006 x).p) vh7 vhw (exZ .norm vh7 vhw) (fun _ _=>⟨rfl,rfl⟩) (fun _ _=>rfl) (fun x=>by kernel_rfl)
theorem w1h:LpAt G101 ⟨0,66,vqn⟩ f111 0:=
 val rfl (fun x=>(n28n_bp0 x).p) wgj wfs (exZ (.exit 0) wgj wfs) (fun _ _=>⟨rfl,rfl⟩) (fun z=>by(intro h;cases h)) (fun _ _=>rfl) (fun x=>by kernel_rfl)
theorem w0d:LpAt G101 ⟨0,66,vqn⟩ f111 2:=
 val rfl (fun x=>(n28n_bp2 x).p) wgz wg7 (exZ (.exit 2) wgz wg7) (fun _ _=>⟨rfl,rfl⟩) (fun z=>by(intro h;cases h)) (fun _ _=>rfl) (fun x=>by kernel_rfl)
theorem xbj:vad prog 111 w3y:=
 vap G101_ok follows (f111.body.getD .skip) func111 (by kernel_rfl) fun p q=>⟨vqn,(n28n_p ..).p.map _,by rw [wqo];kernel_rfl,vaa (ids:=[15000006,0,2]) (by kernel_rfl) (by kernel_rfl) ⟨v27,⟨w1h,⟨w0d,trivial⟩⟩⟩⟩
def G102:Glob:=G101.add 111 w3y
theorem G102_ok:GlobOk prog G102:=G101_ok.add ⟨f111,func111,by kernel_rfl,by kernel_rfl⟩ xbj
def wpx:Nat→Option LoopSpec
 |_=>none
theorem xb4:vad prog 42 w3o:=
 vap G102_ok follows (f42.body.getD .skip) func42 (by kernel_rfl) fun p q=>⟨wpx,(n25n_p ..).p.map _,by rw [wrz];kernel_rfl,vaa (ids:=[]) (by kernel_rfl) (by kernel_rfl) trivial⟩
def G103:Glob:=G102.add 42 w3o
theorem G103_ok:GlobOk prog G103:=G102_ok.add ⟨f42,func42,by kernel_rfl,by kernel_rfl⟩ xb4
def vk5:q50T→List AV:=fun x=>[.bp 0 0,.bp 1 0,.bool x.1,.bool x.2.1,.bp 2 0]
def vlf:q50T→St:=fun x=>let xh:=x.2.2.2.2;let xi:=xh.2.2.2.2;let xj:=xi.2.2.2.2;[.box [.lst tVersion x.2.2.1,.lst tTxn x.2.2.2.1,.lst tTxn xh.1,.i xh.2.1,.i xh.2.2.1],.box [.own 3,.own 4,.own 5,.i xh.2.2.2.1,.i xi.1],.box [.own 6,.own 7,.own 8,.i xi.2.1,.i xi.2.2.1],.arr tVersion xi.2.2.2.1,.dep tTxn xj.1 0 [],.dep tTxn xj.2.1 0 [],.arr tVersion xj.2.2.1,.dep tTxn xj.2.2.2.1 0 [],.dep tTxn xj.2.2.2.2 0 []]
def vpo:q51T→Out×List AV×St:=fun z=>let zh:=z.2.2.2.2;let zi:=zh.2.2.2.2;(.ret,[.bp 0 0,.bp 1 0,.bool z.1,.bool z.2.1,.bp 2 0],[.box [.lst tVersion z.2.2.1,.lst tTxn z.2.2.2.1,.lst tTxn zh.1,.i zh.2.1,.i zh.2.2.1],.box [.own 3,.own 4,.own 5,.i zh.2.2.2.1,.i zi.1],.box [.own 3,.own 4,.own 5,.i zi.2.1,.i zi.2.2.1],.arr tVersion zi.2.2.2.1,.dep tTxn zi.2.2.2.2.1 0 [],.dep tTxn zi.2.2.2.2.2 0 []])
def v4h:q47T→List AV:=fun x=>[.bp 0 0,.bp 1 0,.bp 2 0,.bool x.1]
def v4y:q47T→St:=fun x=>let xh:=x.2.2.2.2;let xi:=xh.2.2.2.2;let xj:=xi.2.2.2.2;let xk:=xj.2.2.2.2;[.box [.lst tVersion x.2.1,.lst tTxn x.2.2.1,.lst tTxn x.2.2.2.1,.i xh.1,.i xh.2.1],.box [.i xh.2.2.1,.i xh.2.2.2.1,.i xi.1,.i xi.2.1,.i xi.2.2.1,.lst tRange xi.2.2.2.1,.lst tWrite xj.1,.bool xj.2.1,.str xj.2.2.1,.str xj.2.2.2.1,.bool xk.1,.lst tVersion xk.2.1,.lst tTxn xk.2.2.1,.lst tTxn xk.2.2.2.1,.i xk.2.2.2.2.1,.i xk.2.2.2.2.2.1],.box [.nilS,.nilS,.nilS,.i xk.2.2.2.2.2.2.1,.i xk.2.2.2.2.2.2.2]]
def vql:q45T→Out×List AV×St:=fun z=>let zh:=z.2.2.2.2;(.ret,[.bp 0 0,.dead,.bp 1 0,.bool z.1],[.box [.lst tVersion z.2.1,.lst tTxn z.2.2.1,.lst tTxn z.2.2.2.1,.i zh.1,.i zh.2.1],.box [.own 2,.own 3,.own 4,.i zh.2.2.1,.i zh.2.2.2.1],.arr tVersion zh.2.2.2.2.1,.dep tTxn zh.2.2.2.2.2.1 0 [],.dep tTxn zh.2.2.2.2.2.2 0 []])
def vwb:Nat→Option LoopSpec
 |5000019=>some (ctS [2,4,5,6,7] [none,none,none,none,none,none,none,none,none,none,some tVersion,some tTxn,some tTxn] [.bp 0 0,.bp 1 0,.bool,.bool,.bp 2 0] [.box [.lst tVersion,.lst tTxn,.lst tTxn,.i,.i],.box [.own 3,.own 4,.own 5,.i,.i],.box [.own 6,.own 7,.own 8,.i,.i],.arr tVersion,.dep tTxn 0,.dep tTxn 0,.arr tVersion,.dep tTxn 0,.dep tTxn 0] vax (fun p q=>(p.2.2.1,p.2.2.2.1,q.1.1,q.1.2.1,q.1.2.2.1,q.1.2.2.2.1,q.1.2.2.2.2.1,q.2.1.2.2.2.1,q.2.1.2.2.2.2.1,q.2.2.1.2.2.2.1,q.2.2.1.2.2.2.2.1,q.2.2.2.1,q.2.2.2.2.1,q.2.2.2.2.2.1,q.2.2.2.2.2.2.1,q.2.2.2.2.2.2.2.1,q.2.2.2.2.2.2.2.2.1)) (fun k=>(Sum.elim (onE (exZ .ret vk5 vlf) k) (onE vpo k))))
 |5000003=>some (ctS [2,3,4,5] [] [.bp 0 0,.bp 1 0,.bp 2 0,.bool] [.box [.lst tVersion,.lst tTxn,.lst tTxn,.i,.i],.box [.i,.i,.i,.i,.i,.lst tRange,.lst tWrite,.bool,.str,.str,.bool,.lst tVersion,.lst tTxn,.lst tTxn,.i,.i],.box [.nilS,.nilS,.nilS,.i,.i]] vfz (fun p q=>(p.2.2.2.1,q.1.1,q.1.2.1,q.1.2.2.1,q.1.2.2.2.1,q.1.2.2.2.2.1,q.2.1.1,q.2.1.2.1,q.2.1.2.2.1,q.2.1.2.2.2.1,q.2.1.2.2.2.2.1,q.2.1.2.2.2.2.2.1,q.2.1.2.2.2.2.2.2.1,q.2.1.2.2.2.2.2.2.2.1,q.2.1.2.2.2.2.2.2.2.2.1,q.2.1.2.2.2.2.2.2.2.2.2.1,q.2.1.2.2.2.2.2.2.2.2.2.2.1,q.2.1.2.2.2.2.2.2.2.2.2.2.2.1,q.2.1.2.2.2.2.2.2.2.2.2.2.2.2.1,q.2.1.2.2.2.2.2.2.2.2.2.2.2.2.2.1,q.2.1.2.2.2.2.2.2.2.2.2.2.2.2.2.2.1,q.2.1.2.2.2.2.2.2.2.2.2.2.2.2.2.2.2.1,q.2.2.1.2.2.2.1,q.2.2.1.2.2.2.2.1)) (fun k=>(onE vql k)))
 |2000017=>some ⟨[0,2,4,6,8,10,13,14],[],fun _ _ _=>none⟩
 |_=>none
theorem v5f:CtAt G103 ⟨0,96,vwb⟩ f13 5000019:=
 vby rfl (fun x=>(n16n_jp5000019 x).p) vk5 vlf (Sum.elim ((exZ .ret vk5 vlf)) (vpo)) (fun _ _=>⟨rfl,rfl⟩) (fun k z=>by rcases z with z|z<;>rfl) (fun x=>by kernel_rfl)
theorem v47:CtAt G103 ⟨0,96,vwb⟩ f13 5000003:=
 vby rfl (fun x=>(n16n_jp5000003 x).p) v4h v4y vql (fun _ _=>⟨rfl,rfl⟩) (fun _ _=>rfl) (fun x=>by kernel_rfl)
theorem xc2:vad prog 13 w57:=
 vap G103_ok follows (f13.body.getD .skip) func13 (by kernel_rfl) fun p q=>⟨vwb,(n16n_p ..).p.map _,by rw [wv6];kernel_rfl,vaa (ids:=[5000019,5000003]) (by kernel_rfl) (by kernel_rfl) ⟨v5f,⟨v47,trivial⟩⟩⟩
def G104:Glob:=G103.add 13 w57
theorem G104_ok:GlobOk prog G104:=G103_ok.add ⟨f13,func13,by kernel_rfl,by kernel_rfl⟩ xc2
def woj:Nat→Option LoopSpec
 |_=>none
theorem xbi:vad prog 141 w3r:=
 vap G104_ok follows (f141.body.getD .skip) func141 (by kernel_rfl) fun p q=>⟨woj,(n55n_p ..).p.map _,by rw [wt5];kernel_rfl,vaa (ids:=[]) (by kernel_rfl) (by kernel_rfl) trivial⟩
def G105:Glob:=G104.add 141 w3r
theorem G105_ok:GlobOk prog G105:=G104_ok.add ⟨f141,func141,by kernel_rfl,by kernel_rfl⟩ xbi
def vz1:q22T→List AV:=fun x=>[.lst tVersion x.1,.lst tVersion x.2.1,.bool x.2.2.1,.i x.2.2.2]
def v1q:q22T→St:=fun x=>[]
def v5l:Nat→Option LoopSpec
 |0=>some (lpS [0,1,4,5] [] [.lst tVersion,.lst tVersion,.bool,.i] [] vqa (fun p q=>(p.1,p.2.1,p.2.2.1,p.2.2.2.1)) (fun k=>(Sum.elim (onE (exZ .ret vz1 v1q) k) (onE (exZ (.exit 0) vz1 v1q) k))))
 |2000006=>some ⟨[0,2,4,6,8,10,12,14,16,18],[],fun _ _ _=>none⟩
 |_=>none
theorem wzt:LpAt G105 ⟨0,27,v5l⟩ f69 0:=
 val rfl (fun x=>(n56n_bp0 x).p) vz1 v1q (Sum.elim ((exZ .ret vz1 v1q)) ((exZ (.exit 0) vz1 v1q))) (fun _ _=>⟨rfl,rfl⟩) (fun z=>by rcases z with z|z<;>(intro h;cases h)) (fun k z=>by rcases z with z|z<;>rfl) (fun x=>by kernel_rfl)
theorem xci:vad prog 69 w5w:=
 vap G105_ok follows (f69.body.getD .skip) func69 (by kernel_rfl) fun p q=>⟨v5l,(n56n_p ..).p.map _,by rw [wqq];kernel_rfl,vaa (ids:=[0]) (by kernel_rfl) (by kernel_rfl) ⟨wzt,trivial⟩⟩
def G106:Glob:=G105.add 69 w5w
theorem G106_ok:GlobOk prog G106:=G105_ok.add ⟨f69,func69,by kernel_rfl,by kernel_rfl⟩ xci
def wox:Nat→Option LoopSpec
 |_=>none
theorem xco:vad prog 192 w39:=
 vap G106_ok follows (f192.body.getD .skip) func192 (by kernel_rfl) fun p q=>⟨wox,(n50n_p ..).p.map _,by rw [wv4];kernel_rfl,vaa (ids:=[]) (by kernel_rfl) (by kernel_rfl) trivial⟩
def G107:Glob:=G106.add 192 w39
theorem G107_ok:GlobOk prog G107:=G106_ok.add ⟨f192,func192,by kernel_rfl,by kernel_rfl⟩ xco
def v1h:q2T→List AV:=fun x=>[.lst tRange x.1,.lst tRange x.2.1,.bool x.2.2.1,.i x.2.2.2]
def v38:q2T→St:=fun x=>[]
def v5o:Nat→Option LoopSpec
 |0=>some (lpS [0,1,4,5] [] [.lst tRange,.lst tRange,.bool,.i] [] voa (fun p q=>(p.1,p.2.1,p.2.2.1,p.2.2.2.1)) (fun k=>(Sum.elim (onE (exZ .ret v1h v38) k) (onE (exZ (.exit 0) v1h v38) k))))
 |2000006=>some ⟨[0,2,4,6,8,10,12,14,16,18],[],fun _ _ _=>none⟩
 |_=>none
theorem w2c:LpAt G107 ⟨0,27,v5o⟩ f142 0:=
 val rfl (fun x=>(n51n_bp0 x).p) v1h v38 (Sum.elim ((exZ .ret v1h v38)) ((exZ (.exit 0) v1h v38))) (fun _ _=>⟨rfl,rfl⟩) (fun z=>by rcases z with z|z<;>(intro h;cases h)) (fun k z=>by rcases z with z|z<;>rfl) (fun x=>by kernel_rfl)
theorem xby:vad prog 142 w53:=
 vap G107_ok follows (f142.body.getD .skip) func142 (by kernel_rfl) fun p q=>⟨v5o,(n51n_p ..).p.map _,by rw [wu9];kernel_rfl,vaa (ids:=[0]) (by kernel_rfl) (by kernel_rfl) ⟨w2c,trivial⟩⟩
def G108:Glob:=G107.add 142 w53
theorem G108_ok:GlobOk prog G108:=G107_ok.add ⟨f142,func142,by kernel_rfl,by kernel_rfl⟩ xby
def wp2:Nat→Option LoopSpec
 |_=>none
theorem xbt:vad prog 193 w4e:=
 vap G108_ok follows (f193.body.getD .skip) func193 (by kernel_rfl) fun p q=>⟨wp2,(n57n_p ..).p.map _,by rw [wsb];kernel_rfl,vaa (ids:=[]) (by kernel_rfl) (by kernel_rfl) trivial⟩
def G109:Glob:=G108.add 193 w4e
theorem G109_ok:GlobOk prog G109:=G108_ok.add ⟨f193,func193,by kernel_rfl,by kernel_rfl⟩ xbt
def v3e:q35T→List AV:=fun x=>[.lst tWrite x.1,.lst tWrite x.2.1,.bool x.2.2.1,.i x.2.2.2]
def v1y:q35T→St:=fun x=>[]
def v7g:Nat→Option LoopSpec
 |0=>some (lpS [0,1,4,5] [] [.lst tWrite,.lst tWrite,.bool,.i] [] vpw (fun p q=>(p.1,p.2.1,p.2.2.1,p.2.2.2.1)) (fun k=>(Sum.elim (onE (exZ .ret v3e v1y) k) (onE (exZ (.exit 0) v3e v1y) k))))
 |2000006=>some ⟨[0,2,4,6,8,10,12,14,16,18],[],fun _ _ _=>none⟩
 |_=>none
theorem wzu:LpAt G109 ⟨0,27,v7g⟩ f143 0:=
 val rfl (fun x=>(n58n_bp0 x).p) v3e v1y (Sum.elim ((exZ .ret v3e v1y)) ((exZ (.exit 0) v3e v1y))) (fun _ _=>⟨rfl,rfl⟩) (fun z=>by rcases z with z|z<;>(intro h;cases h)) (fun k z=>by rcases z with z|z<;>rfl) (fun x=>by kernel_rfl)
theorem xbp:vad prog 143 w5a:=
 vap G109_ok follows (f143.body.getD .skip) func143 (by kernel_rfl) fun p q=>⟨v7g,(n58n_p ..).p.map _,by rw [wr1];kernel_rfl,vaa (ids:=[0]) (by kernel_rfl) (by kernel_rfl) ⟨wzu,trivial⟩⟩
def G110:Glob:=G109.add 143 w5a
theorem G110_ok:GlobOk prog G110:=G109_ok.add ⟨f143,func143,by kernel_rfl,by kernel_rfl⟩ xbp
def wot:Nat→Option LoopSpec
 |_=>none
theorem xav:vad prog 71 w46:=
 vap G110_ok follows (f71.body.getD .skip) func71 (by kernel_rfl) fun p q=>⟨wot,(n53n_p ..).p.map _,by rw [ww0];kernel_rfl,vaa (ids:=[]) (by kernel_rfl) (by kernel_rfl) trivial⟩
def G111:Glob:=G110.add 71 w46
theorem G111_ok:GlobOk prog G111:=G110_ok.add ⟨f71,func71,by kernel_rfl,by kernel_rfl⟩ xav
def v3q:q7T→List AV:=fun x=>[.lst tTxn x.1,.lst tTxn x.2.1,.bool x.2.2.1,.i x.2.2.2]
def vzm:q7T→St:=fun x=>[]
def v7l:Nat→Option LoopSpec
 |0=>some (lpS [0,1,4,5] [] [.lst tTxn,.lst tTxn,.bool,.i] [] vqb (fun p q=>(p.1,p.2.1,p.2.2.1,p.2.2.2.1)) (fun k=>(Sum.elim (onE (exZ .ret v3q vzm) k) (onE (exZ (.exit 0) v3q vzm) k))))
 |2000006=>some ⟨[0,2,4,6,8,10,12,14,16,18],[],fun _ _ _=>none⟩
 |_=>none
theorem w26:LpAt G111 ⟨0,27,v7l⟩ f70 0:=
 val rfl (fun x=>(n54n_bp0 x).p) v3q vzm (Sum.elim ((exZ .ret v3q vzm)) ((exZ (.exit 0) v3q vzm))) (fun _ _=>⟨rfl,rfl⟩) (fun z=>by rcases z with z|z<;>(intro h;cases h)) (fun k z=>by rcases z with z|z<;>rfl) (fun x=>by kernel_rfl)
theorem xax:vad prog 70 w59:=
 vap G111_ok follows (f70.body.getD .skip) func70 (by kernel_rfl) fun p q=>⟨v7l,(n54n_p ..).p.map _,by rw [wuo];kernel_rfl,vaa (ids:=[0]) (by kernel_rfl) (by kernel_rfl) ⟨w26,trivial⟩⟩
def G112:Glob:=G111.add 70 w59
theorem G112_ok:GlobOk prog G112:=G111_ok.add ⟨f70,func70,by kernel_rfl,by kernel_rfl⟩ xax
def woy:Nat→Option LoopSpec
 |_=>none
theorem w90:vad prog 14 w50:=
 vap G112_ok follows (f14.body.getD .skip) func14 (by kernel_rfl) fun p q=>⟨woy,(n49n_p ..).p.map _,by rw [wsy];kernel_rfl,vaa (ids:=[]) (by kernel_rfl) (by kernel_rfl) trivial⟩
def G113:Glob:=G112.add 14 w50
theorem G113_ok:GlobOk prog G113:=G112_ok.add ⟨f14,func14,by kernel_rfl,by kernel_rfl⟩ w90
def woz:Nat→Option LoopSpec
 |_=>none
theorem xba:vad prog 15 w3v:=
 vap G113_ok follows (f15.body.getD .skip) func15 (by kernel_rfl) fun p q=>⟨woz,(n52n_p ..).p.map _,by rw [wyk];kernel_rfl,vaa (ids:=[]) (by kernel_rfl) (by kernel_rfl) trivial⟩
def G114:Glob:=G113.add 15 w3v
theorem G114_ok:GlobOk prog G114:=G113_ok.add ⟨f15,func15,by kernel_rfl,by kernel_rfl⟩ xba
def whu:(Int×ByteArray)→List AV:=fun x=>[.i x.1,.str x.2]
def whz:(Int×ByteArray)→St:=fun x=>[]
def v6u:Nat→Option LoopSpec
 |0=>some (lpS [0,3] [] [.i,.str] [] vrv (fun p q=>(p.1,p.2.1)) (fun k=>(onE (exZ (.exit 0) whu whz) k)))
 |_=>none
theorem w08:LpAt G114 ⟨0,20,v6u⟩ f144 0:=
 val rfl (fun x=>(n67n_bp0 x).p) whu whz (exZ (.exit 0) whu whz) (fun _ _=>⟨rfl,rfl⟩) (fun z=>by(intro h;cases h)) (fun _ _=>rfl) (fun x=>by kernel_rfl)
theorem xat:vad prog 144 w37:=
 vap G114_ok follows (f144.body.getD .skip) func144 (by kernel_rfl) fun p q=>⟨v6u,(n67n_p _).p.map _,by rw [wqn];kernel_rfl,vaa (ids:=[0]) (by kernel_rfl) (by kernel_rfl) ⟨w08,trivial⟩⟩
def G115:Glob:=G114.add 144 w37
theorem G115_ok:GlobOk prog G115:=G114_ok.add ⟨f144,func144,by kernel_rfl,by kernel_rfl⟩ xat
def wf7:(Int×Int×VL)→List AV:=fun x=>[.own 0,.i x.1,.i x.2.1]
def wgs:(Int×Int×VL)→St:=fun x=>[.arr tVersion x.2.2]
def v8i:Nat→Option LoopSpec
 |0=>some (lpS [0,1,5] [] [.own 0,.i,.i] [.arr tVersion] vn2 (fun p q=>(p.2.1,p.2.2.1,q.1)) (fun k=>(onE (exZ (.exit 0) wf7 wgs) k)))
 |_=>none
theorem wzy:LpAt G115 ⟨1,45,v8i⟩ f72 0:=
 val rfl (fun x=>(n70n_bp0 x).p) wf7 wgs (exZ (.exit 0) wf7 wgs) (fun _ _=>⟨rfl,rfl⟩) (fun z=>by(intro h;cases h)) (fun _ _=>rfl) (fun x=>by kernel_rfl)
theorem vs8:vad prog 72 vif:=
 vap G115_ok follows (f72.body.getD .skip) func72 (by kernel_rfl) fun p q=>⟨v8i,(n70n_p ..).p.map _,by rw [wtu];kernel_rfl,vaa (ids:=[0]) (by kernel_rfl) (by kernel_rfl) ⟨wzy,trivial⟩⟩
def G116:Glob:=G115.add 72 vif
theorem G116_ok:GlobOk prog G116:=G115_ok.add ⟨f72,func72,by kernel_rfl,by kernel_rfl⟩ vs8
def wg4:(Int×Int×RL)→List AV:=fun x=>[.own 0,.i x.1,.i x.2.1]
def whf:(Int×Int×RL)→St:=fun x=>[.arr tRange x.2.2]
def v6y:Nat→Option LoopSpec
 |0=>some (lpS [0,1,5] [] [.own 0,.i,.i] [.arr tRange] vsi (fun p q=>(p.2.1,p.2.2.1,q.1)) (fun k=>(onE (exZ (.exit 0) wg4 whf) k)))
 |_=>none
theorem wzq:LpAt G116 ⟨1,29,v6y⟩ f145 0:=
 val rfl (fun x=>(n65n_bp0 x).p) wg4 whf (exZ (.exit 0) wg4 whf) (fun _ _=>⟨rfl,rfl⟩) (fun z=>by(intro h;cases h)) (fun _ _=>rfl) (fun x=>by kernel_rfl)
theorem vv7:vad prog 145 vlk:=
 vap G116_ok follows (f145.body.getD .skip) func145 (by kernel_rfl) fun p q=>⟨v6y,(n65n_p ..).p.map _,by rw [wx9];kernel_rfl,vaa (ids:=[0]) (by kernel_rfl) (by kernel_rfl) ⟨wzq,trivial⟩⟩
def G117:Glob:=G116.add 145 vlk
theorem G117_ok:GlobOk prog G117:=G116_ok.add ⟨f145,func145,by kernel_rfl,by kernel_rfl⟩ vv7
def wfa:(Int×Int×WL)→List AV:=fun x=>[.own 0,.i x.1,.i x.2.1]
def wfy:(Int×Int×WL)→St:=fun x=>[.arr tWrite x.2.2]
def v52:Nat→Option LoopSpec
 |0=>some (lpS [0,1,5] [] [.own 0,.i,.i] [.arr tWrite] vs7 (fun p q=>(p.2.1,p.2.2.1,q.1)) (fun k=>(onE (exZ (.exit 0) wfa wfy) k)))
 |_=>none
theorem w04:LpAt G117 ⟨1,38,v52⟩ f146 0:=
 val rfl (fun x=>(n71n_bp0 x).p) wfa wfy (exZ (.exit 0) wfa wfy) (fun _ _=>⟨rfl,rfl⟩) (fun z=>by(intro h;cases h)) (fun _ _=>rfl) (fun x=>by kernel_rfl)
theorem vws:vad prog 146 vl8:=
 vap G117_ok follows (f146.body.getD .skip) func146 (by kernel_rfl) fun p q=>⟨v52,(n71n_p ..).p.map _,by rw [wxb];kernel_rfl,vaa (ids:=[0]) (by kernel_rfl) (by kernel_rfl) ⟨w04,trivial⟩⟩
def G118:Glob:=G117.add 146 vl8
theorem G118_ok:GlobOk prog G118:=G117_ok.add ⟨f146,func146,by kernel_rfl,by kernel_rfl⟩ vws
def vkh:(Int×Int×TL)→List AV:=fun x=>[.own 0,.i x.1,.i x.2.1]
def vkq:(Int×Int×TL)→St:=fun x=>[.dep tTxn x.2.2 0 []]
def vk1:(Int×Int×TL)→List AV:=fun x=>[.own 0,.i x.1,.i x.2.1]
def vkk:(Int×Int×TL)→St:=fun x=>[.dep tTxn x.2.2 0 []]
def vld:(Int×Int×TL)→List AV:=fun x=>[.own 0,.i x.1,.i x.2.1]
def vkd:(Int×Int×TL)→St:=fun x=>[.dep tTxn x.2.2 0 []]
def vke:(Int×Int×TL)→List AV:=fun x=>[.own 0,.i x.1,.i x.2.1]
def vko:(Int×Int×TL)→St:=fun x=>[.dep tTxn x.2.2 0 []]
def vkw:(Int×Int×TL)→List AV:=fun x=>[.own 0,.i x.1,.i x.2.1]
def vks:(Int×Int×TL)→St:=fun x=>[.dep tTxn x.2.2 0 []]
def vk2:(Int×Int×TL)→List AV:=fun x=>[.own 0,.i x.1,.i x.2.1]
def vk4:(Int×Int×TL)→St:=fun x=>[.dep tTxn x.2.2 0 []]
def vkp:(Int×Int×TL)→List AV:=fun x=>[.own 0,.i x.1,.i x.2.1]
def vkn:(Int×Int×TL)→St:=fun x=>[.dep tTxn x.2.2 0 []]
def wg0:(Int×Int×TL)→List AV:=fun x=>[.own 0,.i x.1,.i x.2.1]
def wft:(Int×Int×TL)→St:=fun x=>[.dep tTxn x.2.2 0 []]
def veg:Nat→Option LoopSpec
 |5000003=>some (ctS [0,1,5] [] [.own 0,.i,.i] [.dep tTxn 0] vff (fun p q=>(p.2.1,p.2.2.1,q.1)) (fun k=>(onE (exZ .norm vkh vkq) k)))
 |5000017=>some (ctS [0,1,5] [] [.own 0,.i,.i] [.dep tTxn 0] vfb (fun p q=>(p.2.1,p.2.2.1,q.1)) (fun k=>(onE (exZ .norm vk1 vkk) k)))
 |5000015=>some (ctS [0,1,5] [] [.own 0,.i,.i] [.dep tTxn 0] vfq (fun p q=>(p.2.1,p.2.2.1,q.1)) (fun k=>(onE (exZ .norm vld vkd) k)))
 |5000011=>some (ctS [0,1,5] [] [.own 0,.i,.i] [.dep tTxn 0] vfy (fun p q=>(p.2.1,p.2.2.1,q.1)) (fun k=>(onE (exZ .norm vke vko) k)))
 |5000009=>some (ctS [0,1,5] [] [.own 0,.i,.i] [.dep tTxn 0] vfo (fun p q=>(p.2.1,p.2.2.1,q.1)) (fun k=>(onE (exZ .norm vkw vks) k)))
 |5000007=>some (ctS [0,1,5] [] [.own 0,.i,.i] [.dep tTxn 0] vf3 (fun p q=>(p.2.1,p.2.2.1,q.1)) (fun k=>(onE (exZ .norm vk2 vk4) k)))
 |5000005=>some (ctS [0,1,5] [] [.own 0,.i,.i] [.dep tTxn 0] vfa (fun p q=>(p.2.1,p.2.2.1,q.1)) (fun k=>(onE (exZ .norm vkp vkn) k)))
 |0=>some (lpS [0,1,5] [] [.own 0,.i,.i] [.dep tTxn 0] vp1 (fun p q=>(p.2.1,p.2.2.1,q.1)) (fun k=>(onE (exZ (.exit 0) wg0 wft) k)))
 |_=>none
theorem v42:CtAt G118 ⟨1,72,veg⟩ f73 5000003:=
 vby rfl (fun x=>(n68n_jp5000003 x).p) vkh vkq (exZ .norm vkh vkq) (fun _ _=>⟨rfl,rfl⟩) (fun _ _=>rfl) (fun x=>by kernel_rfl)
theorem v5e:CtAt G118 ⟨1,72,veg⟩ f73 5000017:=
 vby rfl (fun x=>(n68n_jp5000017 x).p) vk1 vkk (exZ .norm vk1 vkk) (fun _ _=>⟨rfl,rfl⟩) (fun _ _=>rfl) (fun x=>by kernel_rfl)
theorem v4v:CtAt G118 ⟨1,72,veg⟩ f73 5000015:=
 vby rfl (fun x=>(n68n_jp5000015 x).p) vld vkd (exZ .norm vld vkd) (fun _ _=>⟨rfl,rfl⟩) (fun _ _=>rfl) (fun x=>by kernel_rfl)
theorem v5a:CtAt G118 ⟨1,72,veg⟩ f73 5000011:=
 vby rfl (fun x=>(n68n_jp5000011 x).p) vke vko (exZ .norm vke vko) (fun _ _=>⟨rfl,rfl⟩) (fun _ _=>rfl) (fun x=>by kernel_rfl)
theorem v4t:CtAt G118 ⟨1,72,veg⟩ f73 5000009:=
 vby rfl (fun x=>(n68n_jp5000009 x).p) vkw vks (exZ .norm vkw vks) (fun _ _=>⟨rfl,rfl⟩) (fun _ _=>rfl) (fun x=>by kernel_rfl)
theorem v44:CtAt G118 ⟨1,72,veg⟩ f73 5000007:=
 vby rfl (fun x=>(n68n_jp5000007 x).p) vk2 vk4 (exZ .norm vk2 vk4) (fun _ _=>⟨rfl,rfl⟩) (fun _ _=>rfl) (fun x=>by kernel_rfl)
theorem v4z:CtAt G118 ⟨1,72,veg⟩ f73 5000005:=
 vby rfl (fun x=>(n68n_jp5000005 x).p) vkp vkn (exZ .norm vkp vkn) (fun _ _=>⟨rfl,rfl⟩) (fun _ _=>rfl) (fun x=>by kernel_rfl)
theorem wzi:LpAt G118 ⟨1,72,veg⟩ f73 0:=
 val rfl (fun x=>(n68n_bp0 x).p) wg0 wft (exZ (.exit 0) wg0 wft) (fun _ _=>⟨rfl,rfl⟩) (fun z=>by(intro h;cases h)) (fun _ _=>rfl) (fun x=>by kernel_rfl)
theorem v11:vad prog 73 vog:=
 vap G118_ok follows (f73.body.getD .skip) func73 (by kernel_rfl) fun p q=>⟨veg,(n68n_p ..).p.map _,by rw [wxm];kernel_rfl,vaa (ids:=[5000003,5000017,5000015,5000011,5000009,5000007,5000005,0]) (by kernel_rfl) (by kernel_rfl) ⟨v42,⟨v5e,⟨v4v,⟨v5a,⟨v4t,⟨v44,⟨v4z,⟨wzi,trivial⟩⟩⟩⟩⟩⟩⟩⟩⟩
def G119:Glob:=G118.add 73 vog
theorem G119_ok:GlobOk prog G119:=G118_ok.add ⟨f73,func73,by kernel_rfl,by kernel_rfl⟩ v11
end
end Go.VE
