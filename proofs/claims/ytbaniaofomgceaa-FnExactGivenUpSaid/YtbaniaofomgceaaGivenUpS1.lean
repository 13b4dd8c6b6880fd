/- Each function told by its native program; written by gen.py. -/
import Derived.Test.YtbaniaofomgceaaGivenUpS0
namespace Go.VE
open Go.Proofs
noncomputable section
set_option linter.unusedVariables false
set_option linter.unusedSimpArgs false
set_option maxRecDepth 100000
def v0e:Nat→Option LoopSpec
 |_=>none
theorem waf:vac Try.prog 53 v8h:=
 vbg G0_ok follows (Try.f53.body.getD .skip) Try.func53 (by kernel_rfl) fun p q=>⟨v0e,(n31n_p _ _).p.map _,by rw [v2o];kernel_rfl,vab (ids:=[]) (by kernel_rfl) (by kernel_rfl) trivial⟩
def G1:Glob:=G0.add 53 v8h
theorem G1_ok:GlobOk Try.prog G1:=G0_ok.add ⟨Try.f53,Try.func53,by kernel_rfl,by kernel_rfl⟩ waf
def vpm:q10T→List AV:=fun x=>[.lst tVersion x.1,.i x.2.1,.i x.2.2.1,.i x.2.2.2]
def vnk:q10T→St:=fun x=>[]
def vqn:Nat→Option LoopSpec
 |0=>some (lpS [0,1,4,5] [] [.lst tVersion,.i,.i,.i] [] vhw (fun p q=>(p.1,p.2.1,p.2.2.1,p.2.2.2.1)) (fun k=>(Sum.elim (onE (exZ .ret vpm vnk) k) (onE (exZ (.exit 0) vpm vnk) k))))
 |_=>none
theorem v52:LpAt G1 ⟨0,27,vqn⟩ Try.f26 0:=
 vbd rfl (fun x=>(n32n_bp0 x).p) vpm vnk (Sum.elim ((exZ .ret vpm vnk)) ((exZ (.exit 0) vpm vnk))) (fun _ _=>⟨rfl,rfl⟩) (fun z=>by rcases z with z|z<;>(intro h;cases h)) (fun k z=>by rcases z with z|z<;>rfl) (fun x=>by kernel_rfl)
theorem wcc:vac Try.prog 26 v8r:=
 vbg G1_ok follows (Try.f26.body.getD .skip) Try.func26 (by kernel_rfl) fun p q=>⟨vqn,(n32n_p _ _).p.map _,by rw [v4c];kernel_rfl,vab (ids:=[0]) (by kernel_rfl) (by kernel_rfl) ⟨v52,trivial⟩⟩
def G2:Glob:=G1.add 26 v8r
theorem G2_ok:GlobOk Try.prog G2:=G1_ok.add ⟨Try.f26,Try.func26,by kernel_rfl,by kernel_rfl⟩ wcc
def v0j:Nat→Option LoopSpec
 |_=>none
theorem wac:vac Try.prog 74 v88:=
 vbg G2_ok follows (Try.f74.body.getD .skip) Try.func74 (by kernel_rfl) fun p q=>⟨v0j,(n27n_p _ _).p.map _,by rw [v14];kernel_rfl,vab (ids:=[]) (by kernel_rfl) (by kernel_rfl) trivial⟩
def G3:Glob:=G2.add 74 v88
theorem G3_ok:GlobOk Try.prog G3:=G2_ok.add ⟨Try.f74,Try.func74,by kernel_rfl,by kernel_rfl⟩ wac
def vpf:q2T→List AV:=fun x=>[.lst tRange x.1,.i x.2.1,.i x.2.2.1,.i x.2.2.2]
def vn6:q2T→St:=fun x=>[]
def vrb:Nat→Option LoopSpec
 |0=>some (lpS [0,1,4,5] [] [.lst tRange,.i,.i,.i] [] vhl (fun p q=>(p.1,p.2.1,p.2.2.1,p.2.2.2.1)) (fun k=>(Sum.elim (onE (exZ .ret vpf vn6) k) (onE (exZ (.exit 0) vpf vn6) k))))
 |_=>none
theorem v6n:LpAt G3 ⟨0,27,vrb⟩ Try.f61 0:=
 vbd rfl (fun x=>(n28n_bp0 x).p) vpf vn6 (Sum.elim ((exZ .ret vpf vn6)) ((exZ (.exit 0) vpf vn6))) (fun _ _=>⟨rfl,rfl⟩) (fun z=>by rcases z with z|z<;>(intro h;cases h)) (fun k z=>by rcases z with z|z<;>rfl) (fun x=>by kernel_rfl)
theorem wbj:vac Try.prog 61 v80:=
 vbg G3_ok follows (Try.f61.body.getD .skip) Try.func61 (by kernel_rfl) fun p q=>⟨vrb,(n28n_p _ _).p.map _,by rw [v1p];kernel_rfl,vab (ids:=[0]) (by kernel_rfl) (by kernel_rfl) ⟨v6n,trivial⟩⟩
def G4:Glob:=G3.add 61 v80
theorem G4_ok:GlobOk Try.prog G4:=G3_ok.add ⟨Try.f61,Try.func61,by kernel_rfl,by kernel_rfl⟩ wbj
def v0z:Nat→Option LoopSpec
 |_=>none
theorem wa0:vac Try.prog 75 v8s:=
 vbg G4_ok follows (Try.f75.body.getD .skip) Try.func75 (by kernel_rfl) fun p q=>⟨v0z,(n33n_p _ _).p.map _,by rw [v4o];kernel_rfl,vab (ids:=[]) (by kernel_rfl) (by kernel_rfl) trivial⟩
def G5:Glob:=G4.add 75 v8s
theorem G5_ok:GlobOk Try.prog G5:=G4_ok.add ⟨Try.f75,Try.func75,by kernel_rfl,by kernel_rfl⟩ wa0
def vpn:q13T→List AV:=fun x=>[.lst tWrite x.1,.i x.2.1,.i x.2.2.1,.i x.2.2.2]
def voa:q13T→St:=fun x=>[]
def vqt:Nat→Option LoopSpec
 |0=>some (lpS [0,1,4,5] [] [.lst tWrite,.i,.i,.i] [] vhx (fun p q=>(p.1,p.2.1,p.2.2.1,p.2.2.2.1)) (fun k=>(Sum.elim (onE (exZ .ret vpn voa) k) (onE (exZ (.exit 0) vpn voa) k))))
 |_=>none
theorem v6x:LpAt G5 ⟨0,27,vqt⟩ Try.f62 0:=
 vbd rfl (fun x=>(n34n_bp0 x).p) vpn voa (Sum.elim ((exZ .ret vpn voa)) ((exZ (.exit 0) vpn voa))) (fun _ _=>⟨rfl,rfl⟩) (fun z=>by rcases z with z|z<;>(intro h;cases h)) (fun k z=>by rcases z with z|z<;>rfl) (fun x=>by kernel_rfl)
theorem wb8:vac Try.prog 62 v71:=
 vbg G5_ok follows (Try.f62.body.getD .skip) Try.func62 (by kernel_rfl) fun p q=>⟨vqt,(n34n_p _ _).p.map _,by rw [v13];kernel_rfl,vab (ids:=[0]) (by kernel_rfl) (by kernel_rfl) ⟨v6x,trivial⟩⟩
def G6:Glob:=G5.add 62 v71
theorem G6_ok:GlobOk Try.prog G6:=G5_ok.add ⟨Try.f62,Try.func62,by kernel_rfl,by kernel_rfl⟩ wb8
def v1f:Nat→Option LoopSpec
 |_=>none
theorem wbx:vac Try.prog 37 v7t:=
 vbg G6_ok follows (Try.f37.body.getD .skip) Try.func37 (by kernel_rfl) fun p q=>⟨v1f,(n29n_p _ _).p.map _,by rw [v33];kernel_rfl,vab (ids:=[]) (by kernel_rfl) (by kernel_rfl) trivial⟩
def G7:Glob:=G6.add 37 v7t
theorem G7_ok:GlobOk Try.prog G7:=G6_ok.add ⟨Try.f37,Try.func37,by kernel_rfl,by kernel_rfl⟩ wbx
def vno:q7T→List AV:=fun x=>[.lst tTxn x.1,.i x.2.1,.i x.2.2.1,.i x.2.2.2]
def vni:q7T→St:=fun x=>[]
def vr0:Nat→Option LoopSpec
 |0=>some (lpS [0,1,4,5] [] [.lst tTxn,.i,.i,.i] [] vif (fun p q=>(p.1,p.2.1,p.2.2.1,p.2.2.2.1)) (fun k=>(Sum.elim (onE (exZ .ret vno vni) k) (onE (exZ (.exit 0) vno vni) k))))
 |_=>none
theorem v6i:LpAt G7 ⟨0,27,vr0⟩ Try.f13 0:=
 vbd rfl (fun x=>(n30n_bp0 x).p) vno vni (Sum.elim ((exZ .ret vno vni)) ((exZ (.exit 0) vno vni))) (fun _ _=>⟨rfl,rfl⟩) (fun z=>by rcases z with z|z<;>(intro h;cases h)) (fun k z=>by rcases z with z|z<;>rfl) (fun x=>by kernel_rfl)
theorem wap:vac Try.prog 13 v8c:=
 vbg G7_ok follows (Try.f13.body.getD .skip) Try.func13 (by kernel_rfl) fun p q=>⟨vr0,(n30n_p _ _).p.map _,by rw [v2x];kernel_rfl,vab (ids:=[0]) (by kernel_rfl) (by kernel_rfl) ⟨v6i,trivial⟩⟩
def G8:Glob:=G7.add 13 v8c
theorem G8_ok:GlobOk Try.prog G8:=G7_ok.add ⟨Try.f13,Try.func13,by kernel_rfl,by kernel_rfl⟩ wap
def v05:Nat→Option LoopSpec
 |_=>none
theorem wa4:vac Try.prog 6 v74:=
 vbg G8_ok follows (Try.f6.body.getD .skip) Try.func6 (by kernel_rfl) fun p q=>⟨v05,(n26n_p _ _).p.map _,by rw [v2a];kernel_rfl,vab (ids:=[]) (by kernel_rfl) (by kernel_rfl) trivial⟩
def G9:Glob:=G8.add 6 v74
theorem G9_ok:GlobOk Try.prog G9:=G8_ok.add ⟨Try.f6,Try.func6,by kernel_rfl,by kernel_rfl⟩ wa4
def vz7:Nat→Option LoopSpec
 |_=>none
theorem wan:vac Try.prog 55 v7s:=
 vbg G9_ok follows (Try.f55.body.getD .skip) Try.func55 (by kernel_rfl) fun p q=>⟨vz7,(n40n_p _).p.map _,by rw [v2k];kernel_rfl,vab (ids:=[]) (by kernel_rfl) (by kernel_rfl) trivial⟩
def G10:Glob:=G9.add 55 v7s
theorem G10_ok:GlobOk Try.prog G10:=G9_ok.add ⟨Try.f55,Try.func55,by kernel_rfl,by kernel_rfl⟩ wan
def vxs:q9T→List AV:=fun x=>[.lst tVersion x.1,.own 0,.i x.2.1]
def vxt:q9T→St:=fun x=>[.arr tVersion x.2.2]
def vrq:Nat→Option LoopSpec
 |0=>some (lpS [0,3,4] [] [.lst tVersion,.own 0,.i] [.arr tVersion] vh2 (fun p q=>(p.1,p.2.2.1,q.1)) (fun k=>(onE (exZ (.exit 0) vxs vxt) k)))
 |_=>none
theorem v62:LpAt G10 ⟨0,23,vrq⟩ Try.f29 0:=
 vbd rfl (fun x=>(n41n_bp0 x).p) vxs vxt (exZ (.exit 0) vxs vxt) (fun _ _=>⟨rfl,rfl⟩) (fun z=>by(intro h;cases h)) (fun _ _=>rfl) (fun x=>by kernel_rfl)
theorem wa5:vac Try.prog 29 v8p:=
 vbg G10_ok follows (Try.f29.body.getD .skip) Try.func29 (by kernel_rfl) fun p q=>⟨vrq,(n41n_p _).p.map _,by rw [v1o];kernel_rfl,vab (ids:=[0]) (by kernel_rfl) (by kernel_rfl) ⟨v62,trivial⟩⟩
def G11:Glob:=G10.add 29 v8p
theorem G11_ok:GlobOk Try.prog G11:=G10_ok.add ⟨Try.f29,Try.func29,by kernel_rfl,by kernel_rfl⟩ wa5
def v1a:Nat→Option LoopSpec
 |_=>none
theorem wa1:vac Try.prog 76 v8e:=
 vbg G11_ok follows (Try.f76.body.getD .skip) Try.func76 (by kernel_rfl) fun p q=>⟨v1a,(n36n_p _).p.map _,by rw [v20];kernel_rfl,vab (ids:=[]) (by kernel_rfl) (by kernel_rfl) trivial⟩
def G12:Glob:=G11.add 76 v8e
theorem G12_ok:GlobOk Try.prog G12:=G11_ok.add ⟨Try.f76,Try.func76,by kernel_rfl,by kernel_rfl⟩ wa1
def vxa:q1T→List AV:=fun x=>[.lst tRange x.1,.own 0,.i x.2.1]
def vw7:q1T→St:=fun x=>[.arr tRange x.2.2]
def vr7:Nat→Option LoopSpec
 |0=>some (lpS [0,3,4] [] [.lst tRange,.own 0,.i] [.arr tRange] vih (fun p q=>(p.1,p.2.2.1,q.1)) (fun k=>(onE (exZ (.exit 0) vxa vw7) k)))
 |_=>none
theorem v7q:LpAt G12 ⟨0,23,vr7⟩ Try.f64 0:=
 vbd rfl (fun x=>(n37n_bp0 x).p) vxa vw7 (exZ (.exit 0) vxa vw7) (fun _ _=>⟨rfl,rfl⟩) (fun z=>by(intro h;cases h)) (fun _ _=>rfl) (fun x=>by kernel_rfl)
theorem wbo:vac Try.prog 64 v8q:=
 vbg G12_ok follows (Try.f64.body.getD .skip) Try.func64 (by kernel_rfl) fun p q=>⟨vr7,(n37n_p _).p.map _,by rw [v1l];kernel_rfl,vab (ids:=[0]) (by kernel_rfl) (by kernel_rfl) ⟨v7q,trivial⟩⟩
def G13:Glob:=G12.add 64 v8q
theorem G13_ok:GlobOk Try.prog G13:=G12_ok.add ⟨Try.f64,Try.func64,by kernel_rfl,by kernel_rfl⟩ wbo
def v0m:Nat→Option LoopSpec
 |_=>none
theorem wbi:vac Try.prog 77 v8k:=
 vbg G13_ok follows (Try.f77.body.getD .skip) Try.func77 (by kernel_rfl) fun p q=>⟨v0m,(n42n_p _).p.map _,by rw [v2i];kernel_rfl,vab (ids:=[]) (by kernel_rfl) (by kernel_rfl) trivial⟩
def G14:Glob:=G13.add 77 v8k
theorem G14_ok:GlobOk Try.prog G14:=G13_ok.add ⟨Try.f77,Try.func77,by kernel_rfl,by kernel_rfl⟩ wbi
def vwq:q12T→List AV:=fun x=>[.lst tWrite x.1,.own 0,.i x.2.1]
def vwt:q12T→St:=fun x=>[.arr tWrite x.2.2]
def vrr:Nat→Option LoopSpec
 |0=>some (lpS [0,3,4] [] [.lst tWrite,.own 0,.i] [.arr tWrite] vhj (fun p q=>(p.1,p.2.2.1,q.1)) (fun k=>(onE (exZ (.exit 0) vwq vwt) k)))
 |_=>none
theorem v6y:LpAt G14 ⟨0,23,vrr⟩ Try.f65 0:=
 vbd rfl (fun x=>(n43n_bp0 x).p) vwq vwt (exZ (.exit 0) vwq vwt) (fun _ _=>⟨rfl,rfl⟩) (fun z=>by(intro h;cases h)) (fun _ _=>rfl) (fun x=>by kernel_rfl)
theorem wbn:vac Try.prog 65 v7z:=
 vbg G14_ok follows (Try.f65.body.getD .skip) Try.func65 (by kernel_rfl) fun p q=>⟨vrr,(n43n_p _).p.map _,by rw [v34];kernel_rfl,vab (ids:=[0]) (by kernel_rfl) (by kernel_rfl) ⟨v6y,trivial⟩⟩
def G15:Glob:=G14.add 65 v7z
theorem G15_ok:GlobOk Try.prog G15:=G14_ok.add ⟨Try.f65,Try.func65,by kernel_rfl,by kernel_rfl⟩ wbn
def v0d:Nat→Option LoopSpec
 |_=>none
theorem wbd:vac Try.prog 40 v77:=
 vbg G15_ok follows (Try.f40.body.getD .skip) Try.func40 (by kernel_rfl) fun p q=>⟨v0d,(n38n_p _).p.map _,by rw [v4s];kernel_rfl,vab (ids:=[]) (by kernel_rfl) (by kernel_rfl) trivial⟩
def G16:Glob:=G15.add 40 v77
theorem G16_ok:GlobOk Try.prog G16:=G15_ok.add ⟨Try.f40,Try.func40,by kernel_rfl,by kernel_rfl⟩ wbd
def vw9:q4T→List AV:=fun x=>[.lst tTxn x.1,.own 0,.i x.2.1]
def vwz:q4T→St:=fun x=>[.dep tTxn x.2.2 0 []]
def vrx:Nat→Option LoopSpec
 |0=>some (lpS [0,3,4] [] [.lst tTxn,.own 0,.i] [.dep tTxn 0] vhy (fun p q=>(p.1,p.2.2.1,q.1)) (fun k=>(onE (exZ (.exit 0) vw9 vwz) k)))
 |_=>none
theorem v6l:LpAt G16 ⟨0,23,vrx⟩ Try.f15 0:=
 vbd rfl (fun x=>(n39n_bp0 x).p) vw9 vwz (exZ (.exit 0) vw9 vwz) (fun _ _=>⟨rfl,rfl⟩) (fun z=>by(intro h;cases h)) (fun _ _=>rfl) (fun x=>by kernel_rfl)
theorem wat:vac Try.prog 15 v7r:=
 vbg G16_ok follows (Try.f15.body.getD .skip) Try.func15 (by kernel_rfl) fun p q=>⟨vrx,(n39n_p _).p.map _,by rw [v2l];kernel_rfl,vab (ids:=[0]) (by kernel_rfl) (by kernel_rfl) ⟨v6l,trivial⟩⟩
def G17:Glob:=G16.add 15 v7r
theorem G17_ok:GlobOk Try.prog G17:=G16_ok.add ⟨Try.f15,Try.func15,by kernel_rfl,by kernel_rfl⟩ wat
def v0w:Nat→Option LoopSpec
 |_=>none
theorem wa9:vac Try.prog 8 v81:=
 vbg G17_ok follows (Try.f8.body.getD .skip) Try.func8 (by kernel_rfl) fun p q=>⟨v0w,(n35n_p _).p.map _,by rw [v4f];kernel_rfl,vab (ids:=[]) (by kernel_rfl) (by kernel_rfl) trivial⟩
def G18:Glob:=G17.add 8 v81
theorem G18_ok:GlobOk Try.prog G18:=G17_ok.add ⟨Try.f8,Try.func8,by kernel_rfl,by kernel_rfl⟩ wa9
def v1b:Nat→Option LoopSpec
 |_=>none
theorem wcb:vac Try.prog 28 v8g:=
 vbg G18_ok.shallow follows (Try.f28.body.getD .skip) Try.func28 (by kernel_rfl) fun p q=>⟨v1b,(n47n_p _).p.map _,by rw [v28];kernel_rfl,vab (ids:=[]) (by kernel_rfl) (by kernel_rfl) trivial⟩
def G19:Glob:=G18.add 28 v8g
theorem G19_ok:GlobOk Try.prog G19:=G18_ok.add ⟨Try.f28,Try.func28,by kernel_rfl,by kernel_rfl⟩ wcb
def vxh:q4T→List AV:=fun x=>[.lst tTxn x.1,.own 0,.i x.2.1]
def vwc:q4T→St:=fun x=>[.arr tTxn x.2.2]
def vrf:Nat→Option LoopSpec
 |0=>some (lpS [0,3,4] [] [.lst tTxn,.own 0,.i] [.arr tTxn] vim (fun p q=>(p.1,p.2.2.1,q.1)) (fun k=>(onE (exZ (.exit 0) vxh vwc) k)))
 |_=>none
theorem v40:LpAt G19.shallow ⟨0,21,vrf⟩ Try.f54 0:=
 vbd rfl (fun x=>(n49n_bp0 x).p) vxh vwc (exZ (.exit 0) vxh vwc) (fun _ _=>⟨rfl,rfl⟩) (fun z=>by(intro h;cases h)) (fun _ _=>rfl) (fun x=>by kernel_rfl)
theorem wbl:vac Try.prog 54 v8z:=
 vbg G19_ok.shallow follows (Try.f54.body.getD .skip) Try.func54 (by kernel_rfl) fun p q=>⟨vrf,(n49n_p _).p.map _,by rw [v3o];kernel_rfl,vab (ids:=[0]) (by kernel_rfl) (by kernel_rfl) ⟨v40,trivial⟩⟩
def G20:Glob:=G19.add 54 v8z
theorem G20_ok:GlobOk Try.prog G20:=G19_ok.add ⟨Try.f54,Try.func54,by kernel_rfl,by kernel_rfl⟩ wbl
def v02:Nat→Option LoopSpec
 |1000001=>some ⟨[2],[],fun _ _ _=>none⟩
 |_=>none
theorem wa8:vac Try.prog 27 v8y:=
 vbg G20_ok.shallow follows (Try.f27.body.getD .skip) Try.func27 (by kernel_rfl) fun p q=>⟨v02,(n48n_p _).p.map _,by rw [v3z];kernel_rfl,vab (ids:=[]) (by kernel_rfl) (by kernel_rfl) trivial⟩
def G21:Glob:=G20.add 27 v8y
theorem G21_ok:GlobOk Try.prog G21:=G20_ok.add ⟨Try.f27,Try.func27,by kernel_rfl,by kernel_rfl⟩ wa8
def vwn:q16T→List AV:=fun x=>[.str x.1,.bp 0 0,.bp 1 0,.bp 2 0,.i x.2.1]
def vwo:q16T→St:=fun x=>let xh:=x.2.2.2.2.2.2.2.2;[.box [.lst tVersion x.2.2.1,.lst tTxn x.2.2.2.1,.lst tTxn x.2.2.2.2.1,.i x.2.2.2.2.2.1,.i x.2.2.2.2.2.2.1],.box [.nilS,.nilS,.nilS,.i x.2.2.2.2.2.2.2.1,.i xh.1],.box [.own 3,.own 4,.own 5,.i xh.2.1,.i xh.2.2.1],.arr tVersion xh.2.2.2.1,.arr tTxn xh.2.2.2.2.1,.arr tTxn xh.2.2.2.2.2]
def vr4:Nat→Option LoopSpec
 |0=>some (lpS [1,2,4,5,6] [] [.str,.bp 0 0,.bp 1 0,.bp 2 0,.i] [.box [.lst tVersion,.lst tTxn,.lst tTxn,.i,.i],.box [.nilS,.nilS,.nilS,.i,.i],.box [.own 3,.own 4,.own 5,.i,.i],.arr tVersion,.arr tTxn,.arr tTxn] vha (fun p q=>(p.1,p.2.2.2.2.1,q.1.1,q.1.2.1,q.1.2.2.1,q.1.2.2.2.1,q.1.2.2.2.2.1,q.2.1.2.2.2.1,q.2.1.2.2.2.2.1,q.2.2.1.2.2.2.1,q.2.2.1.2.2.2.2.1,q.2.2.2.1,q.2.2.2.2.1,q.2.2.2.2.2.1)) (fun k=>(onE (exZ (.exit 0) vwn vwo) k)))
 |1000007=>some ⟨[5,6,7],[],fun _ _ _=>none⟩
 |_=>none
theorem v6e:LpAt G21.shallow ⟨0,38,vr4⟩ Try.f7 0:=
 vbd rfl (fun x=>(n46n_bp0 x).p) vwn vwo (exZ (.exit 0) vwn vwo) (fun _ _=>⟨rfl,rfl⟩) (fun z=>by(intro h;cases h)) (fun _ _=>rfl) (fun x=>by kernel_rfl)
theorem wam:vac Try.prog 7 v8v:=
 vbg G21_ok.shallow follows (Try.f7.body.getD .skip) Try.func7 (by kernel_rfl) fun p q=>⟨vr4,(n46n_p _ _).p.map _,by rw [v2s];kernel_rfl,vab (ids:=[0]) (by kernel_rfl) (by kernel_rfl) ⟨v6e,trivial⟩⟩
def G22:Glob:=G21.add 7 v8v
theorem G22_ok:GlobOk Try.prog G22:=G21_ok.add ⟨Try.f7,Try.func7,by kernel_rfl,by kernel_rfl⟩ wam
def v0y:Nat→Option LoopSpec
 |_=>none
theorem wbm:vac Try.prog 73 v8f:=
 vbg G22_ok follows (Try.f73.body.getD .skip) Try.func73 (by kernel_rfl) fun p q=>⟨v0y,(n03n_p _).p.map _,by rw [v4u];kernel_rfl,vab (ids:=[]) (by kernel_rfl) (by kernel_rfl) trivial⟩
def G23:Glob:=G22.add 73 v8f
theorem G23_ok:GlobOk Try.prog G23:=G22_ok.add ⟨Try.f73,Try.func73,by kernel_rfl,by kernel_rfl⟩ wbm
def vxi:q5T→List AV:=fun x=>[.own 0,.lst tTxn x.1,.i x.2.1,.i x.2.2.1]
def vwd:q5T→St:=fun x=>[.dep tTxn x.2.2.2 0 []]
def vr2:Nat→Option LoopSpec
 |0=>some (lpS [3,6,7,8] [some tTxn] [.own 0,.lst tTxn,.i,.i] [.dep tTxn 0] vg9 (fun p q=>(p.2.1,p.2.2.1,p.2.2.2.1,q.1)) (fun k=>(onE (exZ (.exit 0) vxi vwd) k)))
 |_=>none
theorem v4z:LpAt G23 ⟨0,19,vr2⟩ Try.f56 0:=
 vbd rfl (fun x=>(n04n_bp0 x).p) vxi vwd (exZ (.exit 0) vxi vwd) (fun _ _=>⟨rfl,rfl⟩) (fun z=>by(intro h;cases h)) (fun _ _=>rfl) (fun x=>by kernel_rfl)
theorem wbs:vac Try.prog 56 v8w:=
 vbg G23_ok follows (Try.f56.body.getD .skip) Try.func56 (by kernel_rfl) fun p q=>⟨vr2,(n04n_p _).p.map _,by rw [v3s];kernel_rfl,vab (ids:=[0]) (by kernel_rfl) (by kernel_rfl) ⟨v4z,trivial⟩⟩
def G24:Glob:=G23.add 56 v8w
theorem G24_ok:GlobOk Try.prog G24:=G23_ok.add ⟨Try.f56,Try.func56,by kernel_rfl,by kernel_rfl⟩ wbs
def v0b:Nat→Option LoopSpec
 |2000002=>some ⟨[0,2,6,8,5,12,11,14,16,18],[],fun _ _ _=>none⟩
 |_=>none
theorem wb9:vac Try.prog 30 v85:=
 vbg G24_ok follows (Try.f30.body.getD .skip) Try.func30 (by kernel_rfl) fun p q=>⟨v0b,(n02n_p _).p.map _,by rw [v4j];kernel_rfl,vab (ids:=[]) (by kernel_rfl) (by kernel_rfl) trivial⟩
def G25:Glob:=G24.add 30 v85
theorem G25_ok:GlobOk Try.prog G25:=G24_ok.add ⟨Try.f30,Try.func30,by kernel_rfl,by kernel_rfl⟩ wb9
def v1d:Nat→Option LoopSpec
 |_=>none
theorem wca:vac Try.prog 32 v8n:=
 vbg G25_ok follows (Try.f32.body.getD .skip) Try.func32 (by kernel_rfl) fun p q=>⟨v1d,(n01n_p _ _).p.map _,by rw [v18];kernel_rfl,vab (ids:=[]) (by kernel_rfl) (by kernel_rfl) trivial⟩
def G26:Glob:=G25.add 32 v8n
theorem G26_ok:GlobOk Try.prog G26:=G25_ok.add ⟨Try.f32,Try.func32,by kernel_rfl,by kernel_rfl⟩ wca
def vol:q6T→List AV:=fun x=>[.lst tTxn x.1,.fn 32 [.bp 0 0],.i x.2.1,.i x.2.2.1,.i x.2.2.2.1]
def vph:q6T→St:=fun x=>[.box [.str x.2.2.2.2]]
def vra:Nat→Option LoopSpec
 |0=>some (lpS [0,1,4,7,8] [] [.lst tTxn,.fn 32 [.bp 0 0],.i,.i,.i] [.box [.str]] vhq (fun p q=>(p.1,p.2.2.1,p.2.2.2.1,p.2.2.2.2.1,q.1.1)) (fun k=>(Sum.elim (onE (exZ .ret vol vph) k) (onE (exZ (.exit 0) vol vph) k))))
 |_=>none
theorem v53:LpAt G26 ⟨1,19,vra⟩ Try.f57 0:=
 vbd rfl (fun x=>(n45n_bp0 x).p) vol vph (Sum.elim ((exZ .ret vol vph)) ((exZ (.exit 0) vol vph))) (fun _ _=>⟨rfl,rfl⟩) (fun z=>by rcases z with z|z<;>(intro h;cases h)) (fun k z=>by rcases z with z|z<;>rfl) (fun x=>by kernel_rfl)
theorem vgz:vac Try.prog 57 vc8:=
 vbg G26_ok follows (Try.f57.body.getD .skip) Try.func57 (by kernel_rfl) fun p q=>⟨vra,(n45n_p _ _).p.map _,by rw [v35];kernel_rfl,vab (ids:=[0]) (by kernel_rfl) (by kernel_rfl) ⟨v53,trivial⟩⟩
def G27:Glob:=G26.add 57 vc8
theorem G27_ok:GlobOk Try.prog G27:=G26_ok.add ⟨Try.f57,Try.func57,by kernel_rfl,by kernel_rfl⟩ vgz
def vfz:Nat→Option LoopSpec
 |0=>some ⟨[0,1,5,6],[],fun vals st k=>val [.own 0,.fn 32 [.bp 1 0],.i,.i] [.mov tTxn 0,.box [.str]] vals st (fun p q=>vad vd8 Fuel (.inl (p.2.2.1,p.2.2.2.1,q.1.1,q.1.2,q.2.1.1)) (Sum.elim (fun z=>k (.exit 0) [.own 0,.fn 32 [.bp 1 0],.i z.1,.i z.2.1] [.dep tTxn z.2.2.1 0 z.2.2.2.1,.box [.str z.2.2.2.2]]) (fun z=>k (.exit 0) [.own 0,.fn 32 [.bp 1 0],.i z.1,.i z.2.1] [.dep tTxn z.2.2.1 1 z.2.2.2.1,.box [.str z.2.2.2.2]])))
   (val [.own 0,.fn 32 [.bp 1 0],.i,.i] [.mov tTxn 1,.box [.str]] vals st (fun p q=>vad vd8 Fuel (.inr (p.2.2.1,p.2.2.2.1,q.1.1,q.1.2,q.2.1.1)) (Sum.elim (fun z=>k (.exit 0) [.own 0,.fn 32 [.bp 1 0],.i z.1,.i z.2.1] [.dep tTxn z.2.2.1 0 z.2.2.2.1,.box [.str z.2.2.2.2]]) (fun z=>k (.exit 0) [.own 0,.fn 32 [.bp 1 0],.i z.1,.i z.2.1] [.dep tTxn z.2.2.1 1 z.2.2.2.1,.box [.str z.2.2.2.2]])))
   (none))⟩
 |_=>none
def vsz:((Int×Int×(List dTxn)×(List Nat)×ByteArray)⊕(Int×Int×(List dTxn)×(List Nat)×ByteArray))→List AV:=(Sum.elim (fun x=>[.own 0,.fn 32 [.bp 1 0],.i x.1,.i x.2.1]) (fun x=>[.own 0,.fn 32 [.bp 1 0],.i x.1,.i x.2.1]))
def vti:((Int×Int×(List dTxn)×(List Nat)×ByteArray)⊕(Int×Int×(List dTxn)×(List Nat)×ByteArray))→St:=(Sum.elim (fun x=>[.dep tTxn x.2.2.1 0 x.2.2.2.1,.box [.str x.2.2.2.2]]) (fun x=>[.dep tTxn x.2.2.1 1 x.2.2.2.1,.box [.str x.2.2.2.2]]))
def vps:((Int×Int×(List dTxn)×(List Nat)×ByteArray)⊕(Int×Int×(List dTxn)×(List Nat)×ByteArray))→Out×List AV×St:=(Sum.elim (fun z=>((.exit 0),[.own 0,.fn 32 [.bp 1 0],.i z.1,.i z.2.1],[.dep tTxn z.2.2.1 0 z.2.2.2.1,.box [.str z.2.2.2.2]])) (fun z=>((.exit 0),[.own 0,.fn 32 [.bp 1 0],.i z.1,.i z.2.1],[.dep tTxn z.2.2.1 1 z.2.2.2.1,.box [.str z.2.2.2.2]])))
theorem vyz (x:((Int×Int×(List dTxn)×(List Nat)×ByteArray)⊕(Int×Int×(List dTxn)×(List Nat)×ByteArray))):exec G27 ⟨2,42,vfz⟩ (vis Try.f31 0) (vli ⟨2,42,vfz⟩ [0,1,5,6] []) (vfo (vdz 42) [0,1,5,6] (vsz x)) (vti x)=vd8 x (Sum.elim (fun y=>some ⟨.norm,vsz y,vti y⟩) fun z=>some ⟨(vps z).1,(vps z).2.1,(vps z).2.2⟩):=by
 rcases x with x|x<;>kernel_rfl
theorem v6a:∀sp,(vfz 0)=some sp→vzr G27 ⟨2,42,vfz⟩ sp (vis Try.f31 0):=by
 intro sp hsp vals st k r h
 cases hsp
 dsimp only at h
 rcases vea h with⟨p,q,rfl,rfl,h⟩|h
 ·exact vlq (fun x=>(n44n_bp0 x).p) vsz vti vps (fun z=>by rcases z with z|z<;>(intro h;cases h)) vyz Fuel (.inl (p.2.2.1,p.2.2.2.1,q.1.1,q.1.2,q.2.1.1)) _ k r (fun z=>by rcases z with z|z<;>rfl) h
 rcases vea h with⟨p,q,rfl,rfl,h⟩|h
 ·exact vlq (fun x=>(n44n_bp0 x).p) vsz vti vps (fun z=>by rcases z with z|z<;>(intro h;cases h)) vyz Fuel (.inr (p.2.2.1,p.2.2.2.1,q.1.1,q.1.2,q.2.1.1)) _ k r (fun z=>by rcases z with z|z<;>rfl) h
 cases h
theorem vgm:vac Try.prog 31 vcu:=
 vbg G27_ok follows (Try.f31.body.getD .skip) Try.func31 (by kernel_rfl) fun p q=>⟨vfz,(n44n_p _ _).p.map2 _ _,by rw [v12];kernel_rfl,vab (ids:=[0]) (by kernel_rfl) (by kernel_rfl) ⟨v6a,trivial⟩⟩
def G28:Glob:=G27.add 31 vcu
theorem G28_ok:GlobOk Try.prog G28:=G27_ok.add ⟨Try.f31,Try.func31,by kernel_rfl,by kernel_rfl⟩ vgm
def v0k:Nat→Option LoopSpec
 |_=>none
theorem wbv:vac Try.prog 9 v8m:=
 vbg G28_ok follows (Try.f9.body.getD .skip) Try.func9 (by kernel_rfl) fun p q=>⟨v0k,(n00n_p _ _).p.map _,by rw [v25];kernel_rfl,vab (ids:=[]) (by kernel_rfl) (by kernel_rfl) trivial⟩
def G29:Glob:=G28.add 9 v8m
theorem G29_ok:GlobOk Try.prog G29:=G28_ok.add ⟨Try.f9,Try.func9,by kernel_rfl,by kernel_rfl⟩ wbv
def v0q:Nat→Option LoopSpec
 |_=>none
theorem wag:vac Try.prog 58 v8i:=
 vbg G29_ok follows (Try.f58.body.getD .skip) Try.func58 (by kernel_rfl) fun p q=>⟨v0q,(n11n_p _ _).p.map _,by rw [v4g];kernel_rfl,vab (ids:=[]) (by kernel_rfl) (by kernel_rfl) trivial⟩
def G30:Glob:=G29.add 58 v8i
theorem G30_ok:GlobOk Try.prog G30:=G29_ok.add ⟨Try.f58,Try.func58,by kernel_rfl,by kernel_rfl⟩ wag
def vm9:q8T→List AV:=fun x=>[.lst tVersion x.1,.lst tVersion x.2.1,.bool x.2.2.1,.i x.2.2.2]
def vn0:q8T→St:=fun x=>[]
def vry:Nat→Option LoopSpec
 |0=>some (lpS [0,1,4,5] [] [.lst tVersion,.lst tVersion,.bool,.i] [] vg1 (fun p q=>(p.1,p.2.1,p.2.2.1,p.2.2.2.1)) (fun k=>(Sum.elim (onE (exZ .ret vm9 vn0) k) (onE (exZ (.exit 0) vm9 vn0) k))))
 |2000006=>some ⟨[0,2,4,6,8,10,12,14,16,18],[],fun _ _ _=>none⟩
 |_=>none
theorem v6f:LpAt G30 ⟨0,27,vry⟩ Try.f33 0:=
 vbd rfl (fun x=>(n12n_bp0 x).p) vm9 vn0 (Sum.elim ((exZ .ret vm9 vn0)) ((exZ (.exit 0) vm9 vn0))) (fun _ _=>⟨rfl,rfl⟩) (fun z=>by rcases z with z|z<;>(intro h;cases h)) (fun k z=>by rcases z with z|z<;>rfl) (fun x=>by kernel_rfl)
theorem wbq:vac Try.prog 33 v8d:=
 vbg G30_ok follows (Try.f33.body.getD .skip) Try.func33 (by kernel_rfl) fun p q=>⟨vry,(n12n_p _ _).p.map _,by rw [v4q];kernel_rfl,vab (ids:=[0]) (by kernel_rfl) (by kernel_rfl) ⟨v6f,trivial⟩⟩
def G31:Glob:=G30.add 33 v8d
theorem G31_ok:GlobOk Try.prog G31:=G30_ok.add ⟨Try.f33,Try.func33,by kernel_rfl,by kernel_rfl⟩ wbq
def v01:Nat→Option LoopSpec
 |_=>none
theorem wax:vac Try.prog 78 v87:=
 vbg G31_ok follows (Try.f78.body.getD .skip) Try.func78 (by kernel_rfl) fun p q=>⟨v01,(n07n_p _ _).p.map _,by rw [v1x];kernel_rfl,vab (ids:=[]) (by kernel_rfl) (by kernel_rfl) trivial⟩
def G32:Glob:=G31.add 78 v87
theorem G32_ok:GlobOk Try.prog G32:=G31_ok.add ⟨Try.f78,Try.func78,by kernel_rfl,by kernel_rfl⟩ wax
def vnh:q0T→List AV:=fun x=>[.lst tRange x.1,.lst tRange x.2.1,.bool x.2.2.1,.i x.2.2.2]
def vng:q0T→St:=fun x=>[]
def vqg:Nat→Option LoopSpec
 |0=>some (lpS [0,1,4,5] [] [.lst tRange,.lst tRange,.bool,.i] [] vh4 (fun p q=>(p.1,p.2.1,p.2.2.1,p.2.2.2.1)) (fun k=>(Sum.elim (onE (exZ .ret vnh vng) k) (onE (exZ (.exit 0) vnh vng) k))))
 |2000006=>some ⟨[0,2,4,6,8,10,12,14,16,18],[],fun _ _ _=>none⟩
 |_=>none
theorem v6w:LpAt G32 ⟨0,27,vqg⟩ Try.f68 0:=
 vbd rfl (fun x=>(n08n_bp0 x).p) vnh vng (Sum.elim ((exZ .ret vnh vng)) ((exZ (.exit 0) vnh vng))) (fun _ _=>⟨rfl,rfl⟩) (fun z=>by rcases z with z|z<;>(intro h;cases h)) (fun k z=>by rcases z with z|z<;>rfl) (fun x=>by kernel_rfl)
theorem wbw:vac Try.prog 68 v7u:=
 vbg G32_ok follows (Try.f68.body.getD .skip) Try.func68 (by kernel_rfl) fun p q=>⟨vqg,(n08n_p _ _).p.map _,by rw [v1q];kernel_rfl,vab (ids:=[0]) (by kernel_rfl) (by kernel_rfl) ⟨v6w,trivial⟩⟩
def G33:Glob:=G32.add 68 v7u
theorem G33_ok:GlobOk Try.prog G33:=G32_ok.add ⟨Try.f68,Try.func68,by kernel_rfl,by kernel_rfl⟩ wbw
def vz4:Nat→Option LoopSpec
 |_=>none
theorem wa7:vac Try.prog 79 v83:=
 vbg G33_ok follows (Try.f79.body.getD .skip) Try.func79 (by kernel_rfl) fun p q=>⟨vz4,(n13n_p _ _).p.map _,by rw [v1v];kernel_rfl,vab (ids:=[]) (by kernel_rfl) (by kernel_rfl) trivial⟩
def G34:Glob:=G33.add 79 v83
theorem G34_ok:GlobOk Try.prog G34:=G33_ok.add ⟨Try.f79,Try.func79,by kernel_rfl,by kernel_rfl⟩ wa7
def vnc:q11T→List AV:=fun x=>[.lst tWrite x.1,.lst tWrite x.2.1,.bool x.2.2.1,.i x.2.2.2]
def vn9:q11T→St:=fun x=>[]
def vrt:Nat→Option LoopSpec
 |0=>some (lpS [0,1,4,5] [] [.lst tWrite,.lst tWrite,.bool,.i] [] vg2 (fun p q=>(p.1,p.2.1,p.2.2.1,p.2.2.2.1)) (fun k=>(Sum.elim (onE (exZ .ret vnc vn9) k) (onE (exZ (.exit 0) vnc vn9) k))))
 |2000006=>some ⟨[0,2,4,6,8,10,12,14,16,18],[],fun _ _ _=>none⟩
 |_=>none
theorem v5n:LpAt G34 ⟨0,27,vrt⟩ Try.f69 0:=
 vbd rfl (fun x=>(n14n_bp0 x).p) vnc vn9 (Sum.elim ((exZ .ret vnc vn9)) ((exZ (.exit 0) vnc vn9))) (fun _ _=>⟨rfl,rfl⟩) (fun z=>by rcases z with z|z<;>(intro h;cases h)) (fun k z=>by rcases z with z|z<;>rfl) (fun x=>by kernel_rfl)
theorem wb7:vac Try.prog 69 v8t:=
 vbg G34_ok follows (Try.f69.body.getD .skip) Try.func69 (by kernel_rfl) fun p q=>⟨vrt,(n14n_p _ _).p.map _,by rw [v3b];kernel_rfl,vab (ids:=[0]) (by kernel_rfl) (by kernel_rfl) ⟨v5n,trivial⟩⟩
def G35:Glob:=G34.add 69 v8t
theorem G35_ok:GlobOk Try.prog G35:=G34_ok.add ⟨Try.f69,Try.func69,by kernel_rfl,by kernel_rfl⟩ wb7
def v1e:Nat→Option LoopSpec
 |_=>none
theorem wb3:vac Try.prog 44 v78:=
 vbg G35_ok follows (Try.f44.body.getD .skip) Try.func44 (by kernel_rfl) fun p q=>⟨v1e,(n09n_p _ _).p.map _,by rw [v2d];kernel_rfl,vab (ids:=[]) (by kernel_rfl) (by kernel_rfl) trivial⟩
def G36:Glob:=G35.add 44 v78
theorem G36_ok:GlobOk Try.prog G36:=G35_ok.add ⟨Try.f44,Try.func44,by kernel_rfl,by kernel_rfl⟩ wb3
def vnp:q3T→List AV:=fun x=>[.lst tTxn x.1,.lst tTxn x.2.1,.bool x.2.2.1,.i x.2.2.2]
def vnj:q3T→St:=fun x=>[]
def vq1:Nat→Option LoopSpec
 |0=>some (lpS [0,1,4,5] [] [.lst tTxn,.lst tTxn,.bool,.i] [] vg3 (fun p q=>(p.1,p.2.1,p.2.2.1,p.2.2.2.1)) (fun k=>(Sum.elim (onE (exZ .ret vnp vnj) k) (onE (exZ (.exit 0) vnp vnj) k))))
 |2000006=>some ⟨[0,2,4,6,8,10,12,14,16,18],[],fun _ _ _=>none⟩
 |_=>none
theorem v5d:LpAt G36 ⟨0,27,vq1⟩ Try.f17 0:=
 vbd rfl (fun x=>(n10n_bp0 x).p) vnp vnj (Sum.elim ((exZ .ret vnp vnj)) ((exZ (.exit 0) vnp vnj))) (fun _ _=>⟨rfl,rfl⟩) (fun z=>by rcases z with z|z<;>(intro h;cases h)) (fun k z=>by rcases z with z|z<;>rfl) (fun x=>by kernel_rfl)
theorem wb5:vac Try.prog 17 v82:=
 vbg G36_ok follows (Try.f17.body.getD .skip) Try.func17 (by kernel_rfl) fun p q=>⟨vq1,(n10n_p _ _).p.map _,by rw [v2g];kernel_rfl,vab (ids:=[0]) (by kernel_rfl) (by kernel_rfl) ⟨v5d,trivial⟩⟩
def G37:Glob:=G36.add 17 v82
theorem G37_ok:GlobOk Try.prog G37:=G36_ok.add ⟨Try.f17,Try.func17,by kernel_rfl,by kernel_rfl⟩ wb5
def vz9:Nat→Option LoopSpec
 |_=>none
theorem wad:vac Try.prog 10 v79:=
 vbg G37_ok follows (Try.f10.body.getD .skip) Try.func10 (by kernel_rfl) fun p q=>⟨vz9,(n06n_p _ _).p.map _,by rw [vzt];kernel_rfl,vab (ids:=[]) (by kernel_rfl) (by kernel_rfl) trivial⟩
def G38:Glob:=G37.add 10 v79
theorem G38_ok:GlobOk Try.prog G38:=G37_ok.add ⟨Try.f10,Try.func10,by kernel_rfl,by kernel_rfl⟩ wad
def vwg:(Int×ByteArray)→List AV:=fun x=>[.i x.1,.str x.2]
def vwl:(Int×ByteArray)→St:=fun x=>[]
def vri:Nat→Option LoopSpec
 |0=>some (lpS [0,3] [] [.i,.str] [] vjs (fun p q=>(p.1,p.2.1)) (fun k=>(onE (exZ (.exit 0) vwg vwl) k)))
 |_=>none
theorem v5x:LpAt G38 ⟨0,20,vri⟩ Try.f47 0:=
 vbd rfl (fun x=>(n22n_bp0 x).p) vwg vwl (exZ (.exit 0) vwg vwl) (fun _ _=>⟨rfl,rfl⟩) (fun z=>by(intro h;cases h)) (fun _ _=>rfl) (fun x=>by kernel_rfl)
theorem wbz:vac Try.prog 47 v72:=
 vbg G38_ok follows (Try.f47.body.getD .skip) Try.func47 (by kernel_rfl) fun p q=>⟨vri,(n22n_p _).p.map _,by rw [v10];kernel_rfl,vab (ids:=[0]) (by kernel_rfl) (by kernel_rfl) ⟨v5x,trivial⟩⟩
def G39:Glob:=G38.add 47 v72
theorem G39_ok:GlobOk Try.prog G39:=G38_ok.add ⟨Try.f47,Try.func47,by kernel_rfl,by kernel_rfl⟩ wbz
def vwr:(Int×Int×(List vaa))→List AV:=fun x=>[.own 0,.i x.1,.i x.2.1]
def vxw:(Int×Int×(List vaa))→St:=fun x=>[.arr tVersion x.2.2]
def vrz:Nat→Option LoopSpec
 |0=>some (lpS [0,1,5] [] [.own 0,.i,.i] [.arr tVersion] vh3 (fun p q=>(p.2.1,p.2.2.1,q.1)) (fun k=>(onE (exZ (.exit 0) vwr vxw) k)))
 |_=>none
theorem v6m:LpAt G39 ⟨1,45,vrz⟩ Try.f34 0:=
 vbd rfl (fun x=>(n24n_bp0 x).p) vwr vxw (exZ (.exit 0) vwr vxw) (fun _ _=>⟨rfl,rfl⟩) (fun z=>by(intro h;cases h)) (fun _ _=>rfl) (fun x=>by kernel_rfl)
theorem vjz:vac Try.prog 34 vee:=
 vbg G39_ok follows (Try.f34.body.getD .skip) Try.func34 (by kernel_rfl) fun p q=>⟨vrz,(n24n_p _ _).p.map _,by rw [v3v];kernel_rfl,vab (ids:=[0]) (by kernel_rfl) (by kernel_rfl) ⟨v6m,trivial⟩⟩
def G40:Glob:=G39.add 34 vee
theorem G40_ok:GlobOk Try.prog G40:=G39_ok.add ⟨Try.f34,Try.func34,by kernel_rfl,by kernel_rfl⟩ vjz
def vv8:(Int×Int×(List vak))→List AV:=fun x=>[.own 0,.i x.1,.i x.2.1]
def vxl:(Int×Int×(List vak))→St:=fun x=>[.arr tRange x.2.2]
def vrn:Nat→Option LoopSpec
 |0=>some (lpS [0,1,5] [] [.own 0,.i,.i] [.arr tRange] vjm (fun p q=>(p.2.1,p.2.2.1,q.1)) (fun k=>(onE (exZ (.exit 0) vv8 vxl) k)))
 |_=>none
theorem v54:LpAt G40 ⟨1,29,vrn⟩ Try.f45 0:=
 vbd rfl (fun x=>(n21n_bp0 x).p) vv8 vxl (exZ (.exit 0) vv8 vxl) (fun _ _=>⟨rfl,rfl⟩) (fun z=>by(intro h;cases h)) (fun _ _=>rfl) (fun x=>by kernel_rfl)
theorem vlg:vac Try.prog 45 vfu:=
 vbg G40_ok follows (Try.f45.body.getD .skip) Try.func45 (by kernel_rfl) fun p q=>⟨vrn,(n21n_p _ _).p.map _,by rw [v3e];kernel_rfl,vab (ids:=[0]) (by kernel_rfl) (by kernel_rfl) ⟨v54,trivial⟩⟩
def G41:Glob:=G40.add 45 vfu
theorem G41_ok:GlobOk Try.prog G41:=G40_ok.add ⟨Try.f45,Try.func45,by kernel_rfl,by kernel_rfl⟩ vlg
def vxc:(Int×Int×(List vai))→List AV:=fun x=>[.own 0,.i x.1,.i x.2.1]
def vxk:(Int×Int×(List vai))→St:=fun x=>[.arr tWrite x.2.2]
def vqx:Nat→Option LoopSpec
 |0=>some (lpS [0,1,5] [] [.own 0,.i,.i] [.arr tWrite] vjp (fun p q=>(p.2.1,p.2.2.1,q.1)) (fun k=>(onE (exZ (.exit 0) vxc vxk) k)))
 |_=>none
theorem v5r:LpAt G41 ⟨1,38,vqx⟩ Try.f46 0:=
 vbd rfl (fun x=>(n25n_bp0 x).p) vxc vxk (exZ (.exit 0) vxc vxk) (fun _ _=>⟨rfl,rfl⟩) (fun z=>by(intro h;cases h)) (fun _ _=>rfl) (fun x=>by kernel_rfl)
theorem vlh:vac Try.prog 46 vf2:=
 vbg G41_ok follows (Try.f46.body.getD .skip) Try.func46 (by kernel_rfl) fun p q=>⟨vqx,(n25n_p _ _).p.map _,by rw [v3g];kernel_rfl,vab (ids:=[0]) (by kernel_rfl) (by kernel_rfl) ⟨v5r,trivial⟩⟩
def G42:Glob:=G41.add 46 vf2
theorem G42_ok:GlobOk Try.prog G42:=G41_ok.add ⟨Try.f46,Try.func46,by kernel_rfl,by kernel_rfl⟩ vlh
def ve5:(Int×Int×(List dTxn))→List AV:=fun x=>[.own 0,.i x.1,.i x.2.1]
def ve1:(Int×Int×(List dTxn))→St:=fun x=>[.dep tTxn x.2.2 0 []]
def vfk:(Int×Int×(List dTxn))→List AV:=fun x=>[.own 0,.i x.1,.i x.2.1]
def ve7:(Int×Int×(List dTxn))→St:=fun x=>[.dep tTxn x.2.2 0 []]
def vfp:(Int×Int×(List dTxn))→List AV:=fun x=>[.own 0,.i x.1,.i x.2.1]
def vey:(Int×Int×(List dTxn))→St:=fun x=>[.dep tTxn x.2.2 0 []]
def ve9:(Int×Int×(List dTxn))→List AV:=fun x=>[.own 0,.i x.1,.i x.2.1]
def vfm:(Int×Int×(List dTxn))→St:=fun x=>[.dep tTxn x.2.2 0 []]
def vfc:(Int×Int×(List dTxn))→List AV:=fun x=>[.own 0,.i x.1,.i x.2.1]
def vff:(Int×Int×(List dTxn))→St:=fun x=>[.dep tTxn x.2.2 0 []]
def ve2:(Int×Int×(List dTxn))→List AV:=fun x=>[.own 0,.i x.1,.i x.2.1]
def vfb:(Int×Int×(List dTxn))→St:=fun x=>[.dep tTxn x.2.2 0 []]
def ve6:(Int×Int×(List dTxn))→List AV:=fun x=>[.own 0,.i x.1,.i x.2.1]
def vfg:(Int×Int×(List dTxn))→St:=fun x=>[.dep tTxn x.2.2 0 []]
def vwx:(Int×Int×(List dTxn))→List AV:=fun x=>[.own 0,.i x.1,.i x.2.1]
def vw5:(Int×Int×(List dTxn))→St:=fun x=>[.dep tTxn x.2.2 0 []]
def vb9:Nat→Option LoopSpec
 |5000003=>some (ctS [0,1,5] [] [.own 0,.i,.i] [.dep tTxn 0] vcz (fun p q=>(p.2.1,p.2.2.1,q.1)) (fun k=>(onE (exZ .norm ve5 ve1) k)))
 |5000017=>some (ctS [0,1,5] [] [.own 0,.i,.i] [.dep tTxn 0] vcs (fun p q=>(p.2.1,p.2.2.1,q.1)) (fun k=>(onE (exZ .norm vfk ve7) k)))
 |5000015=>some (ctS [0,1,5] [] [.own 0,.i,.i] [.dep tTxn 0] vc5 (fun p q=>(p.2.1,p.2.2.1,q.1)) (fun k=>(onE (exZ .norm vfp vey) k)))
 |5000011=>some (ctS [0,1,5] [] [.own 0,.i,.i] [.dep tTxn 0] vc6 (fun p q=>(p.2.1,p.2.2.1,q.1)) (fun k=>(onE (exZ .norm ve9 vfm) k)))
 |5000009=>some (ctS [0,1,5] [] [.own 0,.i,.i] [.dep tTxn 0] vcr (fun p q=>(p.2.1,p.2.2.1,q.1)) (fun k=>(onE (exZ .norm vfc vff) k)))
 |5000007=>some (ctS [0,1,5] [] [.own 0,.i,.i] [.dep tTxn 0] vc2 (fun p q=>(p.2.1,p.2.2.1,q.1)) (fun k=>(onE (exZ .norm ve2 vfb) k)))
 |5000005=>some (ctS [0,1,5] [] [.own 0,.i,.i] [.dep tTxn 0] vcq (fun p q=>(p.2.1,p.2.2.1,q.1)) (fun k=>(onE (exZ .norm ve6 vfg) k)))
 |0=>some (lpS [0,1,5] [] [.own 0,.i,.i] [.dep tTxn 0] vh7 (fun p q=>(p.2.1,p.2.2.1,q.1)) (fun k=>(onE (exZ (.exit 0) vwx vw5) k)))
 |_=>none
theorem vp6:CtAt G42 ⟨1,72,vb9⟩ Try.f18 5000003:=
 vmj rfl (fun x=>(n23n_jp5000003 x).p) ve5 ve1 (exZ .norm ve5 ve1) (fun _ _=>⟨rfl,rfl⟩) (fun _ _=>rfl) (fun x=>by kernel_rfl)
theorem vp4:CtAt G42 ⟨1,72,vb9⟩ Try.f18 5000017:=
 vmj rfl (fun x=>(n23n_jp5000017 x).p) vfk ve7 (exZ .norm vfk ve7) (fun _ _=>⟨rfl,rfl⟩) (fun _ _=>rfl) (fun x=>by kernel_rfl)
theorem vp5:CtAt G42 ⟨1,72,vb9⟩ Try.f18 5000015:=
 vmj rfl (fun x=>(n23n_jp5000015 x).p) vfp vey (exZ .norm vfp vey) (fun _ _=>⟨rfl,rfl⟩) (fun _ _=>rfl) (fun x=>by kernel_rfl)
theorem vp7:CtAt G42 ⟨1,72,vb9⟩ Try.f18 5000011:=
 vmj rfl (fun x=>(n23n_jp5000011 x).p) ve9 vfm (exZ .norm ve9 vfm) (fun _ _=>⟨rfl,rfl⟩) (fun _ _=>rfl) (fun x=>by kernel_rfl)
theorem vqa:CtAt G42 ⟨1,72,vb9⟩ Try.f18 5000009:=
 vmj rfl (fun x=>(n23n_jp5000009 x).p) vfc vff (exZ .norm vfc vff) (fun _ _=>⟨rfl,rfl⟩) (fun _ _=>rfl) (fun x=>by kernel_rfl)
theorem vp0:CtAt G42 ⟨1,72,vb9⟩ Try.f18 5000007:=
 vmj rfl (fun x=>(n23n_jp5000007 x).p) ve2 vfb (exZ .norm ve2 vfb) (fun _ _=>⟨rfl,rfl⟩) (fun _ _=>rfl) (fun x=>by kernel_rfl)
theorem vpy:CtAt G42 ⟨1,72,vb9⟩ Try.f18 5000005:=
 vmj rfl (fun x=>(n23n_jp5000005 x).p) ve6 vfg (exZ .norm ve6 vfg) (fun _ _=>⟨rfl,rfl⟩) (fun _ _=>rfl) (fun x=>by kernel_rfl)
theorem v6h:LpAt G42 ⟨1,72,vb9⟩ Try.f18 0:=
 vbd rfl (fun x=>(n23n_bp0 x).p) vwx vw5 (exZ (.exit 0) vwx vw5) (fun _ _=>⟨rfl,rfl⟩) (fun z=>by(intro h;cases h)) (fun _ _=>rfl) (fun x=>by kernel_rfl)
theorem vns:vac Try.prog 18 vhg:=
 vbg G42_ok follows (Try.f18.body.getD .skip) Try.func18 (by kernel_rfl) fun p q=>⟨vb9,(n23n_p _ _).p.map _,by rw [v4i];kernel_rfl,vab (ids:=[5000003,5000017,5000015,5000011,5000009,5000007,5000005,0]) (by kernel_rfl) (by kernel_rfl) ⟨vp6,⟨vp4,⟨vp5,⟨vp7,⟨vqa,⟨vp0,⟨vpy,⟨v6h,trivial⟩⟩⟩⟩⟩⟩⟩⟩⟩
def G43:Glob:=G42.add 18 vhg
theorem G43_ok:GlobOk Try.prog G43:=G42_ok.add ⟨Try.f18,Try.func18,by kernel_rfl,by kernel_rfl⟩ vns
def v0r:Nat→Option LoopSpec
 |_=>none
theorem vpj:vac Try.prog 11 vht:=
 vbg G43_ok follows (Try.f11.body.getD .skip) Try.func11 (by kernel_rfl) fun p q=>⟨v0r,(n20n_p _ _ _ _ _ _).p.map _,by rw [v2f];kernel_rfl,vab (ids:=[]) (by kernel_rfl) (by kernel_rfl) trivial⟩
def G44:Glob:=G43.add 11 vht
theorem G44_ok:GlobOk Try.prog G44:=G43_ok.add ⟨Try.f11,Try.func11,by kernel_rfl,by kernel_rfl⟩ vpj
def vnd:q10T→List AV:=fun x=>[.lst tVersion x.1,.i x.2.1,.i x.2.2.1,.i x.2.2.2]
def vpd:q10T→St:=fun x=>[]
def vqd:Nat→Option LoopSpec
 |0=>some (lpS [0,1,4,5] [] [.lst tVersion,.i,.i,.i] [] vh9 (fun p q=>(p.1,p.2.1,p.2.2.1,p.2.2.2.1)) (fun k=>(Sum.elim (onE (exZ .ret vnd vpd) k) (onE (exZ (.exit 0) vnd vpd) k))))
 |2000004=>some ⟨[0,2,4,6,8,10,13,14],[],fun _ _ _=>none⟩
 |2000007=>some ⟨[0,2,4,6,8,10,13,14],[],fun _ _ _=>none⟩
 |_=>none
theorem v67:LpAt G44 ⟨0,53,vqd⟩ Try.f35 0:=
 vbd rfl (fun x=>(n18n_bp0 x).p) vnd vpd (Sum.elim ((exZ .ret vnd vpd)) ((exZ (.exit 0) vnd vpd))) (fun _ _=>⟨rfl,rfl⟩) (fun z=>by rcases z with z|z<;>(intro h;cases h)) (fun k z=>by rcases z with z|z<;>rfl) (fun x=>by kernel_rfl)
theorem waq:vac Try.prog 35 v84:=
 vbg G44_ok follows (Try.f35.body.getD .skip) Try.func35 (by kernel_rfl) fun p q=>⟨vqd,(n18n_p _ _).p.map _,by rw [v1w];kernel_rfl,vab (ids:=[0]) (by kernel_rfl) (by kernel_rfl) ⟨v67,trivial⟩⟩
def G45:Glob:=G44.add 35 v84
theorem G45_ok:GlobOk Try.prog G45:=G44_ok.add ⟨Try.f35,Try.func35,by kernel_rfl,by kernel_rfl⟩ waq
def vo2:q2T→List AV:=fun x=>[.lst tRange x.1,.i x.2.1,.i x.2.2.1,.i x.2.2.2]
def voe:q2T→St:=fun x=>[]
def vq2:Nat→Option LoopSpec
 |0=>some (lpS [0,1,4,5] [] [.lst tRange,.i,.i,.i] [] vhp (fun p q=>(p.1,p.2.1,p.2.2.1,p.2.2.2.1)) (fun k=>(Sum.elim (onE (exZ .ret vo2 voe) k) (onE (exZ (.exit 0) vo2 voe) k))))
 |2000004=>some ⟨[0,2,4,6,8,10,13,14],[],fun _ _ _=>none⟩
 |2000007=>some ⟨[0,2,4,6,8,10,13,14],[],fun _ _ _=>none⟩
 |_=>none
theorem v57:LpAt G45 ⟨0,33,vq2⟩ Try.f59 0:=
 vbd rfl (fun x=>(n16n_bp0 x).p) vo2 voe (Sum.elim ((exZ .ret vo2 voe)) ((exZ (.exit 0) vo2 voe))) (fun _ _=>⟨rfl,rfl⟩) (fun z=>by rcases z with z|z<;>(intro h;cases h)) (fun k z=>by rcases z with z|z<;>rfl) (fun x=>by kernel_rfl)
theorem wak:vac Try.prog 59 v8b:=
 vbg G45_ok follows (Try.f59.body.getD .skip) Try.func59 (by kernel_rfl) fun p q=>⟨vq2,(n16n_p _ _).p.map _,by rw [v27];kernel_rfl,vab (ids:=[0]) (by kernel_rfl) (by kernel_rfl) ⟨v57,trivial⟩⟩
def G46:Glob:=G45.add 59 v8b
theorem G46_ok:GlobOk Try.prog G46:=G45_ok.add ⟨Try.f59,Try.func59,by kernel_rfl,by kernel_rfl⟩ wak
def vpi:q13T→List AV:=fun x=>[.lst tWrite x.1,.i x.2.1,.i x.2.2.1,.i x.2.2.2]
def vpa:q13T→St:=fun x=>[]
def vr9:Nat→Option LoopSpec
 |0=>some (lpS [0,1,4,5] [] [.lst tWrite,.i,.i,.i] [] vig (fun p q=>(p.1,p.2.1,p.2.2.1,p.2.2.2.1)) (fun k=>(Sum.elim (onE (exZ .ret vpi vpa) k) (onE (exZ (.exit 0) vpi vpa) k))))
 |2000004=>some ⟨[0,2,4,6,8,10,13,14],[],fun _ _ _=>none⟩
 |2000007=>some ⟨[0,2,4,6,8,10,13,14],[],fun _ _ _=>none⟩
 |_=>none
theorem v5i:LpAt G46 ⟨0,44,vr9⟩ Try.f60 0:=
 vbd rfl (fun x=>(n19n_bp0 x).p) vpi vpa (Sum.elim ((exZ .ret vpi vpa)) ((exZ (.exit 0) vpi vpa))) (fun _ _=>⟨rfl,rfl⟩) (fun z=>by rcases z with z|z<;>(intro h;cases h)) (fun k z=>by rcases z with z|z<;>rfl) (fun x=>by kernel_rfl)
theorem wav:vac Try.prog 60 v7v:=
 vbg G46_ok follows (Try.f60.body.getD .skip) Try.func60 (by kernel_rfl) fun p q=>⟨vr9,(n19n_p _ _).p.map _,by rw [v16];kernel_rfl,vab (ids:=[0]) (by kernel_rfl) (by kernel_rfl) ⟨v5i,trivial⟩⟩
def G47:Glob:=G46.add 60 v7v
theorem G47_ok:GlobOk Try.prog G47:=G46_ok.add ⟨Try.f60,Try.func60,by kernel_rfl,by kernel_rfl⟩ wav
def vo3:q7T→List AV:=fun x=>[.lst tTxn x.1,.i x.2.1,.i x.2.2.1,.i x.2.2.2]
def vpl:q7T→St:=fun x=>[]
def vqk:Nat→Option LoopSpec
 |0=>some (lpS [0,1,4,5] [] [.lst tTxn,.i,.i,.i] [] vg4 (fun p q=>(p.1,p.2.1,p.2.2.1,p.2.2.2.1)) (fun k=>(Sum.elim (onE (exZ .ret vo3 vpl) k) (onE (exZ (.exit 0) vo3 vpl) k))))
 |2000025=>some ⟨[0,2,4,6,8,10,13,14],[],fun _ _ _=>none⟩
 |_=>none
theorem v6g:LpAt G47 ⟨0,88,vqk⟩ Try.f36 0:=
 vbd rfl (fun x=>(n17n_bp0 x).p) vo3 vpl (Sum.elim ((exZ .ret vo3 vpl)) ((exZ (.exit 0) vo3 vpl))) (fun _ _=>⟨rfl,rfl⟩) (fun z=>by rcases z with z|z<;>(intro h;cases h)) (fun k z=>by rcases z with z|z<;>rfl) (fun x=>by kernel_rfl)
theorem wa2:vac Try.prog 36 v70:=
 vbg G47_ok follows (Try.f36.body.getD .skip) Try.func36 (by kernel_rfl) fun p q=>⟨vqk,(n17n_p _ _).p.map _,by rw [v1r];kernel_rfl,vab (ids:=[0]) (by kernel_rfl) (by kernel_rfl) ⟨v6g,trivial⟩⟩
def G48:Glob:=G47.add 36 v70
theorem G48_ok:GlobOk Try.prog G48:=G47_ok.add ⟨Try.f36,Try.func36,by kernel_rfl,by kernel_rfl⟩ wa2
def v0o:Nat→Option LoopSpec
 |_=>none
theorem wby:vac Try.prog 12 v86:=
 vbg G48_ok follows (Try.f12.body.getD .skip) Try.func12 (by kernel_rfl) fun p q=>⟨v0o,(n15n_p _ _).p.map _,by rw [v3i];kernel_rfl,vab (ids:=[]) (by kernel_rfl) (by kernel_rfl) trivial⟩
def G49:Glob:=G48.add 12 v86
theorem G49_ok:GlobOk Try.prog G49:=G48_ok.add ⟨Try.f12,Try.func12,by kernel_rfl,by kernel_rfl⟩ wby
def vfi:q14T→List AV:=fun x=>[.str x.1,.bp 0 0,.bool x.2.1,.bp 1 0,.bp 2 0]
def vfl:q14T→St:=fun x=>let xh:=x.2.2.2.2.2.2.2.2;[.box [.lst tVersion x.2.2.1,.lst tTxn x.2.2.2.1,.lst tTxn x.2.2.2.2.1,.i x.2.2.2.2.2.1,.i x.2.2.2.2.2.2.1],.box [.own 3,.own 4,.own 5,.i x.2.2.2.2.2.2.2.1,.i xh.1],.box [.own 6,.own 7,.own 8,.i xh.2.1,.i xh.2.2.1],.arr tVersion xh.2.2.2.1,.arr tTxn xh.2.2.2.2.1,.arr tTxn xh.2.2.2.2.2.1,.arr tVersion xh.2.2.2.2.2.2.1,.dep tTxn xh.2.2.2.2.2.2.2.1 0 [],.dep tTxn xh.2.2.2.2.2.2.2.2 0 []]
def vqq:Nat→Option LoopSpec
 |5000018=>some (ctS [1,2,4,6,8] [] [.str,.bp 0 0,.bool,.bp 1 0,.bp 2 0] [.box [.lst tVersion,.lst tTxn,.lst tTxn,.i,.i],.box [.own 3,.own 4,.own 5,.i,.i],.box [.own 6,.own 7,.own 8,.i,.i],.arr tVersion,.arr tTxn,.arr tTxn,.arr tVersion,.dep tTxn 0,.dep tTxn 0] vca (fun p q=>(p.1,p.2.2.1,q.1.1,q.1.2.1,q.1.2.2.1,q.1.2.2.2.1,q.1.2.2.2.2.1,q.2.1.2.2.2.1,q.2.1.2.2.2.2.1,q.2.2.1.2.2.2.1,q.2.2.1.2.2.2.2.1,q.2.2.2.1,q.2.2.2.2.1,q.2.2.2.2.2.1,q.2.2.2.2.2.2.1,q.2.2.2.2.2.2.2.1,q.2.2.2.2.2.2.2.2.1)) (fun k=>(onE (exZ .ret vfi vfl) k)))
 |_=>none
theorem vp8:CtAt G49 ⟨0,77,vqq⟩ Try.f3 5000018:=
 vmj rfl (fun x=>(n05n_jp5000018 x).p) vfi vfl (exZ .ret vfi vfl) (fun _ _=>⟨rfl,rfl⟩) (fun _ _=>rfl) (fun x=>by kernel_rfl)
theorem v76:vac Try.prog 3 v3j:=
 vbg G49_ok follows (Try.f3.body.getD .skip) Try.func3 (by kernel_rfl) fun p q=>⟨vqq,(n05n_p _ _).p.map _,by rw [v37];kernel_rfl,vab (ids:=[5000018]) (by kernel_rfl) (by kernel_rfl) ⟨vp8,trivial⟩⟩
def G50:Glob:=G49.add 3 v3j
theorem wcn:GlobOk Try.prog G50:=G49_ok.add ⟨Try.f3,Try.func3,by kernel_rfl,by kernel_rfl⟩ v76
end
end Go.VE
