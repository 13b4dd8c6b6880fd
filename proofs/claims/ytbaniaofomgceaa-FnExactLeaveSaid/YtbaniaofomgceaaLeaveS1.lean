/- Each function told by its native program; written by gen.py. -/
import Derived.Test.YtbaniaofomgceaaLeaveS0
namespace Go.VE
open Go.Proofs
noncomputable section
set_option linter.unusedVariables false
set_option linter.unusedSimpArgs false
set_option maxRecDepth 100000
def v52:Nat→Option LoopSpec
 |_=>none
theorem wkm:vad Try.prog 53 wh1:=
 va0 G0_ok follows (Try.f53.body.getD .skip) Try.func53 (by kernel_rfl) fun p q=>⟨v52,(n45n_p _ _).p.map _,by rw [wbw];kernel_rfl,vab (ids:=[]) (by kernel_rfl) (by kernel_rfl) trivial⟩
def G1:Glob:=G0.add 53 wh1
theorem G1_ok:GlobOk Try.prog G1:=G0_ok.add ⟨Try.f53,Try.func53,by kernel_rfl,by kernel_rfl⟩ wkm
def vpr:q16T→List AV:=fun x=>[.lst tVersion x.1,.i x.2.1,.i x.2.2.1,.i x.2.2.2]
def vqj:q16T→St:=fun x=>[]
def vtw:Nat→Option LoopSpec
 |0=>some (lpS [0,1,4,5] [] [.lst tVersion,.i,.i,.i] [] vj7 (fun p q=>(p.1,p.2.1,p.2.2.1,p.2.2.2.1)) (fun k=>(Sum.elim (onE (exZ .ret vpr vqj) k) (onE (exZ (.exit 0) vpr vqj) k))))
 |_=>none
theorem wda:LpAt G1 ⟨0,27,vtw⟩ Try.f26 0:=
 vau rfl (fun x=>(n46n_bp0 x).p) vpr vqj (Sum.elim ((exZ .ret vpr vqj)) ((exZ (.exit 0) vpr vqj))) (fun _ _=>⟨rfl,rfl⟩) (fun z=>by rcases z with z|z<;>(intro h;cases h)) (fun k z=>by rcases z with z|z<;>rfl) (fun x=>by kernel_rfl)
theorem wlz:vad Try.prog 26 whs:=
 va0 G1_ok follows (Try.f26.body.getD .skip) Try.func26 (by kernel_rfl) fun p q=>⟨vtw,(n46n_p _ _).p.map _,by rw [waw];kernel_rfl,vab (ids:=[0]) (by kernel_rfl) (by kernel_rfl) ⟨wda,trivial⟩⟩
def G2:Glob:=G1.add 26 whs
theorem G2_ok:GlobOk Try.prog G2:=G1_ok.add ⟨Try.f26,Try.func26,by kernel_rfl,by kernel_rfl⟩ wlz
def v7i:Nat→Option LoopSpec
 |_=>none
theorem wl9:vad Try.prog 74 wgd:=
 va0 G2_ok follows (Try.f74.body.getD .skip) Try.func74 (by kernel_rfl) fun p q=>⟨v7i,(n41n_p _ _).p.map _,by rw [v9x];kernel_rfl,vab (ids:=[]) (by kernel_rfl) (by kernel_rfl) trivial⟩
def G3:Glob:=G2.add 74 wgd
theorem G3_ok:GlobOk Try.prog G3:=G2_ok.add ⟨Try.f74,Try.func74,by kernel_rfl,by kernel_rfl⟩ wl9
def vqh:q2T→List AV:=fun x=>[.lst tRange x.1,.i x.2.1,.i x.2.2.1,.i x.2.2.2]
def vrh:q2T→St:=fun x=>[]
def vvv:Nat→Option LoopSpec
 |0=>some (lpS [0,1,4,5] [] [.lst tRange,.i,.i,.i] [] vi3 (fun p q=>(p.1,p.2.1,p.2.2.1,p.2.2.2.1)) (fun k=>(Sum.elim (onE (exZ .ret vqh vrh) k) (onE (exZ (.exit 0) vqh vrh) k))))
 |_=>none
theorem wey:LpAt G3 ⟨0,27,vvv⟩ Try.f61 0:=
 vau rfl (fun x=>(n42n_bp0 x).p) vqh vrh (Sum.elim ((exZ .ret vqh vrh)) ((exZ (.exit 0) vqh vrh))) (fun _ _=>⟨rfl,rfl⟩) (fun z=>by rcases z with z|z<;>(intro h;cases h)) (fun k z=>by rcases z with z|z<;>rfl) (fun x=>by kernel_rfl)
theorem wlc:vad Try.prog 61 whn:=
 va0 G3_ok follows (Try.f61.body.getD .skip) Try.func61 (by kernel_rfl) fun p q=>⟨vvv,(n42n_p _ _).p.map _,by rw [wb0];kernel_rfl,vab (ids:=[0]) (by kernel_rfl) (by kernel_rfl) ⟨wey,trivial⟩⟩
def G4:Glob:=G3.add 61 whn
theorem G4_ok:GlobOk Try.prog G4:=G3_ok.add ⟨Try.f61,Try.func61,by kernel_rfl,by kernel_rfl⟩ wlc
def v6u:Nat→Option LoopSpec
 |_=>none
theorem wlr:vad Try.prog 75 wgx:=
 va0 G4_ok follows (Try.f75.body.getD .skip) Try.func75 (by kernel_rfl) fun p q=>⟨v6u,(n47n_p _ _).p.map _,by rw [v7n];kernel_rfl,vab (ids:=[]) (by kernel_rfl) (by kernel_rfl) trivial⟩
def G5:Glob:=G4.add 75 wgx
theorem G5_ok:GlobOk Try.prog G5:=G4_ok.add ⟨Try.f75,Try.func75,by kernel_rfl,by kernel_rfl⟩ wlr
def vsq:q19T→List AV:=fun x=>[.lst tWrite x.1,.i x.2.1,.i x.2.2.1,.i x.2.2.2]
def vrb:q19T→St:=fun x=>[]
def vvi:Nat→Option LoopSpec
 |0=>some (lpS [0,1,4,5] [] [.lst tWrite,.i,.i,.i] [] vik (fun p q=>(p.1,p.2.1,p.2.2.1,p.2.2.2.1)) (fun k=>(Sum.elim (onE (exZ .ret vsq vrb) k) (onE (exZ (.exit 0) vsq vrb) k))))
 |_=>none
theorem wfh:LpAt G5 ⟨0,27,vvi⟩ Try.f62 0:=
 vau rfl (fun x=>(n48n_bp0 x).p) vsq vrb (Sum.elim ((exZ .ret vsq vrb)) ((exZ (.exit 0) vsq vrb))) (fun _ _=>⟨rfl,rfl⟩) (fun z=>by rcases z with z|z<;>(intro h;cases h)) (fun k z=>by rcases z with z|z<;>rfl) (fun x=>by kernel_rfl)
theorem wjp:vad Try.prog 62 wgr:=
 va0 G5_ok follows (Try.f62.body.getD .skip) Try.func62 (by kernel_rfl) fun p q=>⟨vvi,(n48n_p _ _).p.map _,by rw [v9h];kernel_rfl,vab (ids:=[0]) (by kernel_rfl) (by kernel_rfl) ⟨wfh,trivial⟩⟩
def G6:Glob:=G5.add 62 wgr
theorem G6_ok:GlobOk Try.prog G6:=G5_ok.add ⟨Try.f62,Try.func62,by kernel_rfl,by kernel_rfl⟩ wjp
def v6t:Nat→Option LoopSpec
 |_=>none
theorem wly:vad Try.prog 37 wgs:=
 va0 G6_ok follows (Try.f37.body.getD .skip) Try.func37 (by kernel_rfl) fun p q=>⟨v6t,(n43n_p _ _).p.map _,by rw [wac];kernel_rfl,vab (ids:=[]) (by kernel_rfl) (by kernel_rfl) trivial⟩
def G7:Glob:=G6.add 37 wgs
theorem G7_ok:GlobOk Try.prog G7:=G6_ok.add ⟨Try.f37,Try.func37,by kernel_rfl,by kernel_rfl⟩ wly
def vpx:q7T→List AV:=fun x=>[.lst tTxn x.1,.i x.2.1,.i x.2.2.1,.i x.2.2.2]
def vq6:q7T→St:=fun x=>[]
def vu4:Nat→Option LoopSpec
 |0=>some (lpS [0,1,4,5] [] [.lst tTxn,.i,.i,.i] [] vio (fun p q=>(p.1,p.2.1,p.2.2.1,p.2.2.2.1)) (fun k=>(Sum.elim (onE (exZ .ret vpx vq6) k) (onE (exZ (.exit 0) vpx vq6) k))))
 |_=>none
theorem wef:LpAt G7 ⟨0,27,vu4⟩ Try.f13 0:=
 vau rfl (fun x=>(n44n_bp0 x).p) vpx vq6 (Sum.elim ((exZ .ret vpx vq6)) ((exZ (.exit 0) vpx vq6))) (fun _ _=>⟨rfl,rfl⟩) (fun z=>by rcases z with z|z<;>(intro h;cases h)) (fun k z=>by rcases z with z|z<;>rfl) (fun x=>by kernel_rfl)
theorem wkw:vad Try.prog 13 wf1:=
 va0 G7_ok follows (Try.f13.body.getD .skip) Try.func13 (by kernel_rfl) fun p q=>⟨vu4,(n44n_p _ _).p.map _,by rw [v7u];kernel_rfl,vab (ids:=[0]) (by kernel_rfl) (by kernel_rfl) ⟨wef,trivial⟩⟩
def G8:Glob:=G7.add 13 wf1
theorem G8_ok:GlobOk Try.prog G8:=G7_ok.add ⟨Try.f13,Try.func13,by kernel_rfl,by kernel_rfl⟩ wkw
def v56:Nat→Option LoopSpec
 |_=>none
theorem wmc:vad Try.prog 6 wgi:=
 va0 G8_ok follows (Try.f6.body.getD .skip) Try.func6 (by kernel_rfl) fun p q=>⟨v56,(n39n_p _ _).p.map _,by rw [v83];kernel_rfl,vab (ids:=[]) (by kernel_rfl) (by kernel_rfl) trivial⟩
def G9:Glob:=G8.add 6 wgi
theorem G9_ok:GlobOk Try.prog G9:=G8_ok.add ⟨Try.f6,Try.func6,by kernel_rfl,by kernel_rfl⟩ wmc
def v6c:Nat→Option LoopSpec
 |_=>none
theorem wln:vad Try.prog 19 wgh:=
 va0 G9_ok follows (Try.f19.body.getD .skip) Try.func19 (by kernel_rfl) fun p q=>⟨v6c,(n40n_p _ _).p.map _,by rw [wbn];kernel_rfl,vab (ids:=[]) (by kernel_rfl) (by kernel_rfl) trivial⟩
def G10:Glob:=G9.add 19 wgh
theorem G10_ok:GlobOk Try.prog G10:=G9_ok.add ⟨Try.f19,Try.func19,by kernel_rfl,by kernel_rfl⟩ wln
def v7h:Nat→Option LoopSpec
 |_=>none
theorem wjy:vad Try.prog 55 whx:=
 va0 G10_ok follows (Try.f55.body.getD .skip) Try.func55 (by kernel_rfl) fun p q=>⟨v7h,(n55n_p _).p.map _,by rw [v75];kernel_rfl,vab (ids:=[]) (by kernel_rfl) (by kernel_rfl) trivial⟩
def G11:Glob:=G10.add 55 whx
theorem G11_ok:GlobOk Try.prog G11:=G10_ok.add ⟨Try.f55,Try.func55,by kernel_rfl,by kernel_rfl⟩ wjy
def v09:q13T→List AV:=fun x=>[.lst tVersion x.1,.own 0,.i x.2.1]
def v16:q13T→St:=fun x=>[.arr tVersion x.2.2]
def vur:Nat→Option LoopSpec
 |0=>some (lpS [0,3,4] [] [.lst tVersion,.own 0,.i] [.arr tVersion] vic (fun p q=>(p.1,p.2.2.1,q.1)) (fun k=>(onE (exZ (.exit 0) v09 v16) k)))
 |_=>none
theorem web:LpAt G11 ⟨0,23,vur⟩ Try.f29 0:=
 vau rfl (fun x=>(n56n_bp0 x).p) v09 v16 (exZ (.exit 0) v09 v16) (fun _ _=>⟨rfl,rfl⟩) (fun z=>by(intro h;cases h)) (fun _ _=>rfl) (fun x=>by kernel_rfl)
theorem wj3:vad Try.prog 29 wgw:=
 va0 G11_ok follows (Try.f29.body.getD .skip) Try.func29 (by kernel_rfl) fun p q=>⟨vur,(n56n_p _).p.map _,by rw [wa5];kernel_rfl,vab (ids:=[0]) (by kernel_rfl) (by kernel_rfl) ⟨web,trivial⟩⟩
def G12:Glob:=G11.add 29 wgw
theorem G12_ok:GlobOk Try.prog G12:=G11_ok.add ⟨Try.f29,Try.func29,by kernel_rfl,by kernel_rfl⟩ wj3
def v6i:Nat→Option LoopSpec
 |_=>none
theorem wjw:vad Try.prog 76 wg4:=
 va0 G12_ok follows (Try.f76.body.getD .skip) Try.func76 (by kernel_rfl) fun p q=>⟨v6i,(n51n_p _).p.map _,by rw [v9n];kernel_rfl,vab (ids:=[]) (by kernel_rfl) (by kernel_rfl) trivial⟩
def G13:Glob:=G12.add 76 wg4
theorem G13_ok:GlobOk Try.prog G13:=G12_ok.add ⟨Try.f76,Try.func76,by kernel_rfl,by kernel_rfl⟩ wjw
def v1k:q1T→List AV:=fun x=>[.lst tRange x.1,.own 0,.i x.2.1]
def v04:q1T→St:=fun x=>[.arr tRange x.2.2]
def vvs:Nat→Option LoopSpec
 |0=>some (lpS [0,3,4] [] [.lst tRange,.own 0,.i] [.arr tRange] vjn (fun p q=>(p.1,p.2.2.1,q.1)) (fun k=>(onE (exZ (.exit 0) v1k v04) k)))
 |_=>none
theorem we9:LpAt G13 ⟨0,23,vvs⟩ Try.f64 0:=
 vau rfl (fun x=>(n52n_bp0 x).p) v1k v04 (exZ (.exit 0) v1k v04) (fun _ _=>⟨rfl,rfl⟩) (fun z=>by(intro h;cases h)) (fun _ _=>rfl) (fun x=>by kernel_rfl)
theorem wlx:vad Try.prog 64 wf6:=
 va0 G13_ok follows (Try.f64.body.getD .skip) Try.func64 (by kernel_rfl) fun p q=>⟨vvs,(n52n_p _).p.map _,by rw [wag];kernel_rfl,vab (ids:=[0]) (by kernel_rfl) (by kernel_rfl) ⟨we9,trivial⟩⟩
def G14:Glob:=G13.add 64 wf6
theorem G14_ok:GlobOk Try.prog G14:=G13_ok.add ⟨Try.f64,Try.func64,by kernel_rfl,by kernel_rfl⟩ wlx
def v5z:Nat→Option LoopSpec
 |_=>none
theorem wkv:vad Try.prog 77 whd:=
 va0 G14_ok follows (Try.f77.body.getD .skip) Try.func77 (by kernel_rfl) fun p q=>⟨v5z,(n57n_p _).p.map _,by rw [wb2];kernel_rfl,vab (ids:=[]) (by kernel_rfl) (by kernel_rfl) trivial⟩
def G15:Glob:=G14.add 77 whd
theorem G15_ok:GlobOk Try.prog G15:=G14_ok.add ⟨Try.f77,Try.func77,by kernel_rfl,by kernel_rfl⟩ wkv
def v01:q18T→List AV:=fun x=>[.lst tWrite x.1,.own 0,.i x.2.1]
def v2r:q18T→St:=fun x=>[.arr tWrite x.2.2]
def vuh:Nat→Option LoopSpec
 |0=>some (lpS [0,3,4] [] [.lst tWrite,.own 0,.i] [.arr tWrite] viv (fun p q=>(p.1,p.2.2.1,q.1)) (fun k=>(onE (exZ (.exit 0) v01 v2r) k)))
 |_=>none
theorem wdc:LpAt G15 ⟨0,23,vuh⟩ Try.f65 0:=
 vau rfl (fun x=>(n58n_bp0 x).p) v01 v2r (exZ (.exit 0) v01 v2r) (fun _ _=>⟨rfl,rfl⟩) (fun z=>by(intro h;cases h)) (fun _ _=>rfl) (fun x=>by kernel_rfl)
theorem wl0:vad Try.prog 65 wf4:=
 va0 G15_ok follows (Try.f65.body.getD .skip) Try.func65 (by kernel_rfl) fun p q=>⟨vuh,(n58n_p _).p.map _,by rw [v8d];kernel_rfl,vab (ids:=[0]) (by kernel_rfl) (by kernel_rfl) ⟨wdc,trivial⟩⟩
def G16:Glob:=G15.add 65 wf4
theorem G16_ok:GlobOk Try.prog G16:=G15_ok.add ⟨Try.f65,Try.func65,by kernel_rfl,by kernel_rfl⟩ wl0
def v6h:Nat→Option LoopSpec
 |_=>none
theorem wjt:vad Try.prog 40 wgp:=
 va0 G16_ok follows (Try.f40.body.getD .skip) Try.func40 (by kernel_rfl) fun p q=>⟨v6h,(n53n_p _).p.map _,by rw [v8a];kernel_rfl,vab (ids:=[]) (by kernel_rfl) (by kernel_rfl) trivial⟩
def G17:Glob:=G16.add 40 wgp
theorem G17_ok:GlobOk Try.prog G17:=G16_ok.add ⟨Try.f40,Try.func40,by kernel_rfl,by kernel_rfl⟩ wjt
def v13:q4T→List AV:=fun x=>[.lst tTxn x.1,.own 0,.i x.2.1]
def v2b:q4T→St:=fun x=>[.dep tTxn x.2.2 0 []]
def vvp:Nat→Option LoopSpec
 |0=>some (lpS [0,3,4] [] [.lst tTxn,.own 0,.i] [.dep tTxn 0] vkd (fun p q=>(p.1,p.2.2.1,q.1)) (fun k=>(onE (exZ (.exit 0) v13 v2b) k)))
 |_=>none
theorem wep:LpAt G17 ⟨0,23,vvp⟩ Try.f15 0:=
 vau rfl (fun x=>(n54n_bp0 x).p) v13 v2b (exZ (.exit 0) v13 v2b) (fun _ _=>⟨rfl,rfl⟩) (fun z=>by(intro h;cases h)) (fun _ _=>rfl) (fun x=>by kernel_rfl)
theorem wkd:vad Try.prog 15 wh3:=
 va0 G17_ok follows (Try.f15.body.getD .skip) Try.func15 (by kernel_rfl) fun p q=>⟨vvp,(n54n_p _).p.map _,by rw [v7y];kernel_rfl,vab (ids:=[0]) (by kernel_rfl) (by kernel_rfl) ⟨wep,trivial⟩⟩
def G18:Glob:=G17.add 15 wh3
theorem G18_ok:GlobOk Try.prog G18:=G17_ok.add ⟨Try.f15,Try.func15,by kernel_rfl,by kernel_rfl⟩ wkd
def v7b:Nat→Option LoopSpec
 |_=>none
theorem wkn:vad Try.prog 8 wgo:=
 va0 G18_ok follows (Try.f8.body.getD .skip) Try.func8 (by kernel_rfl) fun p q=>⟨v7b,(n49n_p _).p.map _,by rw [v9p];kernel_rfl,vab (ids:=[]) (by kernel_rfl) (by kernel_rfl) trivial⟩
def G19:Glob:=G18.add 8 wgo
theorem G19_ok:GlobOk Try.prog G19:=G18_ok.add ⟨Try.f8,Try.func8,by kernel_rfl,by kernel_rfl⟩ wkn
def v6p:Nat→Option LoopSpec
 |_=>none
theorem wld:vad Try.prog 21 whr:=
 va0 G19_ok follows (Try.f21.body.getD .skip) Try.func21 (by kernel_rfl) fun p q=>⟨v6p,(n50n_p _).p.map _,by rw [v8v];kernel_rfl,vab (ids:=[]) (by kernel_rfl) (by kernel_rfl) trivial⟩
def G20:Glob:=G19.add 21 whr
theorem G20_ok:GlobOk Try.prog G20:=G19_ok.add ⟨Try.f21,Try.func21,by kernel_rfl,by kernel_rfl⟩ wld
def v60:Nat→Option LoopSpec
 |_=>none
theorem wll:vad Try.prog 28 wgk:=
 va0 G20_ok.shallow follows (Try.f28.body.getD .skip) Try.func28 (by kernel_rfl) fun p q=>⟨v60,(n70n_p _).p.map _,by rw [v9e];kernel_rfl,vab (ids:=[]) (by kernel_rfl) (by kernel_rfl) trivial⟩
def G21:Glob:=G20.add 28 wgk
theorem G21_ok:GlobOk Try.prog G21:=G20_ok.add ⟨Try.f28,Try.func28,by kernel_rfl,by kernel_rfl⟩ wll
def v2l:q4T→List AV:=fun x=>[.lst tTxn x.1,.own 0,.i x.2.1]
def v03:q4T→St:=fun x=>[.arr tTxn x.2.2]
def vu5:Nat→Option LoopSpec
 |0=>some (lpS [0,3,4] [] [.lst tTxn,.own 0,.i] [.arr tTxn] vjj (fun p q=>(p.1,p.2.2.1,q.1)) (fun k=>(onE (exZ (.exit 0) v2l v03) k)))
 |_=>none
theorem wen:LpAt G21.shallow ⟨0,21,vu5⟩ Try.f54 0:=
 vau rfl (fun x=>(n72n_bp0 x).p) v2l v03 (exZ (.exit 0) v2l v03) (fun _ _=>⟨rfl,rfl⟩) (fun z=>by(intro h;cases h)) (fun _ _=>rfl) (fun x=>by kernel_rfl)
theorem wj9:vad Try.prog 54 wh2:=
 va0 G21_ok.shallow follows (Try.f54.body.getD .skip) Try.func54 (by kernel_rfl) fun p q=>⟨vu5,(n72n_p _).p.map _,by rw [v8c];kernel_rfl,vab (ids:=[0]) (by kernel_rfl) (by kernel_rfl) ⟨wen,trivial⟩⟩
def G22:Glob:=G21.add 54 wh2
theorem G22_ok:GlobOk Try.prog G22:=G21_ok.add ⟨Try.f54,Try.func54,by kernel_rfl,by kernel_rfl⟩ wj9
def v5v:Nat→Option LoopSpec
 |1000001=>some ⟨[2],[],fun _ _ _=>none⟩
 |_=>none
theorem wmd:vad Try.prog 27 whc:=
 va0 G22_ok.shallow follows (Try.f27.body.getD .skip) Try.func27 (by kernel_rfl) fun p q=>⟨v5v,(n71n_p _).p.map _,by rw [v3g];kernel_rfl,vab (ids:=[]) (by kernel_rfl) (by kernel_rfl) trivial⟩
def G23:Glob:=G22.add 27 whc
theorem G23_ok:GlobOk Try.prog G23:=G22_ok.add ⟨Try.f27,Try.func27,by kernel_rfl,by kernel_rfl⟩ wmd
def v7e:Nat→Option LoopSpec
 |2000001=>some ⟨[0,2,6,8,5,11,12,14],[],fun _ _ _=>none⟩
 |_=>none
theorem wka:vad Try.prog 48 wh0:=
 va0 G23_ok.shallow follows (Try.f48.body.getD .skip) Try.func48 (by kernel_rfl) fun p q=>⟨v7e,(n73n_p _).p.map _,by rw [v8u];kernel_rfl,vab (ids:=[]) (by kernel_rfl) (by kernel_rfl) trivial⟩
def G24:Glob:=G23.add 48 wh0
theorem G24_ok:GlobOk Try.prog G24:=G23_ok.add ⟨Try.f48,Try.func48,by kernel_rfl,by kernel_rfl⟩ wka
def vqt:q39T→List AV:=fun x=>[.i x.1,.bp 0 0,.i x.2.1,.i x.2.2.1]
def vsi:q39T→St:=fun x=>[.box [.lst tVersion x.2.2.2.1,.lst tTxn x.2.2.2.2.1,.lst tTxn x.2.2.2.2.2.1,.i x.2.2.2.2.2.2.1,.i x.2.2.2.2.2.2.2.1,.lst tTxn x.2.2.2.2.2.2.2.2]]
def vvl:Nat→Option LoopSpec
 |0=>some (lpS [1,2,4,5] [] [.i,.bp 0 0,.i,.i] [.box [.lst tVersion,.lst tTxn,.lst tTxn,.i,.i,.lst tTxn]] vjc (fun p q=>(p.1,p.2.2.1,p.2.2.2.1,q.1.1,q.1.2.1,q.1.2.2.1,q.1.2.2.2.1,q.1.2.2.2.2.1,q.1.2.2.2.2.2.1)) (fun k=>(Sum.elim (onE (exZ .ret vqt vsi) k) (onE (exZ (.exit 0) vqt vsi) k))))
 |_=>none
theorem wcv:LpAt G24.shallow ⟨0,22,vvl⟩ Try.f49 0:=
 vau rfl (fun x=>(n66n_bp0 x).p) vqt vsi (Sum.elim ((exZ .ret vqt vsi)) ((exZ (.exit 0) vqt vsi))) (fun _ _=>⟨rfl,rfl⟩) (fun z=>by rcases z with z|z<;>(intro h;cases h)) (fun k z=>by rcases z with z|z<;>rfl) (fun x=>by kernel_rfl)
theorem wko:vad Try.prog 49 wg8:=
 va0 G24_ok.shallow follows (Try.f49.body.getD .skip) Try.func49 (by kernel_rfl) fun p q=>⟨vvl,(n66n_p _ _).p.map _,by rw [wan];kernel_rfl,vab (ids:=[0]) (by kernel_rfl) (by kernel_rfl) ⟨wcv,trivial⟩⟩
def G25:Glob:=G24.add 49 wg8
theorem G25_ok:GlobOk Try.prog G25:=G24_ok.add ⟨Try.f49,Try.func49,by kernel_rfl,by kernel_rfl⟩ wko
def v2v:((List dTxn)×Int×Int)→List AV:=fun x=>[.lst tTxn x.1,.i x.2.1,.i x.2.2]
def v2g:((List dTxn)×Int×Int)→St:=fun x=>[]
def vum:Nat→Option LoopSpec
 |0=>some (lpS [1,5,6] [] [.lst tTxn,.i,.i] [] viq (fun p q=>(p.1,p.2.1,p.2.2.1)) (fun k=>(onE (exZ (.exit 0) v2v v2g) k)))
 |_=>none
theorem wfp:LpAt G25.shallow ⟨0,28,vum⟩ Try.f38 0:=
 vau rfl (fun x=>(n65n_bp0 x).p) v2v v2g (exZ (.exit 0) v2v v2g) (fun _ _=>⟨rfl,rfl⟩) (fun z=>by(intro h;cases h)) (fun _ _=>rfl) (fun x=>by kernel_rfl)
theorem wme:vad Try.prog 38 wgc:=
 va0 G25_ok.shallow follows (Try.f38.body.getD .skip) Try.func38 (by kernel_rfl) fun p q=>⟨vum,(n65n_p _ _).p.map _,by rw [wae];kernel_rfl,vab (ids:=[0]) (by kernel_rfl) (by kernel_rfl) ⟨wfp,trivial⟩⟩
def G26:Glob:=G25.add 38 wgc
theorem G26_ok:GlobOk Try.prog G26:=G25_ok.add ⟨Try.f38,Try.func38,by kernel_rfl,by kernel_rfl⟩ wme
def v1w:q10T→List AV:=fun x=>[.lst tVersion x.1,.str x.2.1,.i x.2.2.1,.i x.2.2.2.1,.i x.2.2.2.2]
def v2j:q10T→St:=fun x=>[]
def vtq:Nat→Option LoopSpec
 |0=>some (lpS [0,1,2,7,8] [] [.lst tVersion,.str,.i,.i,.i] [] vjt (fun p q=>(p.1,p.2.1,p.2.2.1,p.2.2.2.1,p.2.2.2.2.1)) (fun k=>(onE (exZ (.exit 0) v1w v2j) k)))
 |2000005=>some ⟨[0,2,4,6,8,10,12,14,16,18,20,22,24,26,28,30,32,34,36,38,40,42,44,46,48,50,52,54,56,58,60,62,64],[],fun _ _ _=>none⟩
 |_=>none
theorem wcq:LpAt G26.shallow ⟨0,50,vtq⟩ Try.f63 0:=
 vau rfl (fun x=>(n69n_bp0 x).p) v1w v2j (exZ (.exit 0) v1w v2j) (fun _ _=>⟨rfl,rfl⟩) (fun z=>by(intro h;cases h)) (fun _ _=>rfl) (fun x=>by kernel_rfl)
theorem wlj:vad Try.prog 63 whu:=
 va0 G26_ok.shallow follows (Try.f63.body.getD .skip) Try.func63 (by kernel_rfl) fun p q=>⟨vtq,(n69n_p _ _ _).p.map _,by rw [v9g];kernel_rfl,vab (ids:=[0]) (by kernel_rfl) (by kernel_rfl) ⟨wcq,trivial⟩⟩
def G27:Glob:=G26.add 63 whu
theorem G27_ok:GlobOk Try.prog G27:=G26_ok.add ⟨Try.f63,Try.func63,by kernel_rfl,by kernel_rfl⟩ wlj
def ve8:q15T→List AV:=fun x=>[.lst tVersion x.1,.i x.2.1,.own 0,.i x.2.2.1,.bool x.2.2.2.1]
def veu:q15T→St:=fun x=>[.arr tVersion x.2.2.2.2]
def v0p:q14T→List AV:=fun x=>[.lst tVersion x.1,.i x.2.1,.own 0,.i x.2.2.1]
def v1r:q14T→St:=fun x=>[.arr tVersion x.2.2.2]
def ve5:q37T→List AV:=fun x=>[.i x.1,.own 0,.own 1,.i x.2.1,.bool x.2.2.1]
def ve1:q37T→St:=fun x=>[.arr tVersion x.2.2.2.1,.arr tVersion x.2.2.2.2]
def v0g:q42T→List AV:=fun x=>[.i x.1,.own 0,.own 1,.i x.2.1,.i x.2.2.1,.i x.2.2.2.1]
def v0j:q42T→St:=fun x=>[.arr tVersion x.2.2.2.2.1,.arr tVersion x.2.2.2.2.2]
def v1s:q36T→List AV:=fun x=>[.i x.1,.own 0,.own 1,.i x.2.1]
def v1p:q36T→St:=fun x=>[.arr tVersion x.2.2.1,.arr tVersion x.2.2.2]
def ver:Nat→Option LoopSpec
 |15000007=>some (ctS [0,1,5,6,38] [] [.lst tVersion,.i,.own 0,.i,.bool] [.arr tVersion] vb1 (fun p q=>(p.1,p.2.1,p.2.2.2.1,p.2.2.2.2.1,q.1)) (fun k=>(onE (exZ .norm ve8 veu) k)))
 |0=>some (lpS [0,1,5,6] [] [.lst tVersion,.i,.own 0,.i] [.arr tVersion] vi0 (fun p q=>(p.1,p.2.1,p.2.2.2.1,q.1)) (fun k=>(onE (exZ (.exit 0) v0p v1r) k)))
 |15000019=>some (ctS [1,5,8,9,90] [] [.i,.own 0,.own 1,.i,.bool] [.arr tVersion,.arr tVersion] vbt (fun p q=>(p.1,p.2.2.2.1,p.2.2.2.2.1,q.1,q.2.1)) (fun k=>(onE (exZ .norm ve5 ve1) k)))
 |4=>some (lpS [1,5,8,9,10,11] [] [.i,.own 0,.own 1,.i,.i,.i] [.arr tVersion,.arr tVersion] vkc (fun p q=>(p.1,p.2.2.2.1,p.2.2.2.2.1,p.2.2.2.2.2.1,q.1,q.2.1)) (fun k=>(onE (exZ (.exit 4) v0g v0j) k)))
 |2=>some (lpS [1,5,8,9] [] [.i,.own 0,.own 1,.i] [.arr tVersion,.arr tVersion] vhl (fun p q=>(p.1,p.2.2.2.1,q.1,q.2.1)) (fun k=>(onE (exZ (.exit 2) v1s v1p) k)))
 |2000016=>some ⟨[0,2,4,6,8,10,12,14,16,18,20],[],fun _ _ _=>none⟩
 |_=>none
theorem vsr:CtAt G27.shallow ⟨0,99,ver⟩ Try.f39 15000007:=
 vin rfl (fun x=>(n68n_jp15000007 x).p) ve8 veu (exZ .norm ve8 veu) (fun _ _=>⟨rfl,rfl⟩) (fun _ _=>rfl) (fun x=>by kernel_rfl)
theorem wes:LpAt G27.shallow ⟨0,99,ver⟩ Try.f39 0:=
 vau rfl (fun x=>(n68n_bp0 x).p) v0p v1r (exZ (.exit 0) v0p v1r) (fun _ _=>⟨rfl,rfl⟩) (fun z=>by(intro h;cases h)) (fun _ _=>rfl) (fun x=>by kernel_rfl)
theorem vq8:CtAt G27.shallow ⟨0,99,ver⟩ Try.f39 15000019:=
 vin rfl (fun x=>(n68n_jp15000019 x).p) ve5 ve1 (exZ .norm ve5 ve1) (fun _ _=>⟨rfl,rfl⟩) (fun _ _=>rfl) (fun x=>by kernel_rfl)
theorem wez:LpAt G27.shallow ⟨0,99,ver⟩ Try.f39 4:=
 vau rfl (fun x=>(n68n_bp4 x).p) v0g v0j (exZ (.exit 4) v0g v0j) (fun _ _=>⟨rfl,rfl⟩) (fun z=>by(intro h;cases h)) (fun _ _=>rfl) (fun x=>by kernel_rfl)
theorem wdt:LpAt G27.shallow ⟨0,99,ver⟩ Try.f39 2:=
 vau rfl (fun x=>(n68n_bp2 x).p) v1s v1p (exZ (.exit 2) v1s v1p) (fun _ _=>⟨rfl,rfl⟩) (fun z=>by(intro h;cases h)) (fun _ _=>rfl) (fun x=>by kernel_rfl)
theorem wkg:vad Try.prog 39 wf8:=
 va0 G27_ok.shallow follows (Try.f39.body.getD .skip) Try.func39 (by kernel_rfl) fun p q=>⟨ver,(n68n_p _ _).p.map _,by rw [war];kernel_rfl,vab (ids:=[15000007,0,15000019,4,2]) (by kernel_rfl) (by kernel_rfl) ⟨vsr,⟨wes,⟨vq8,⟨wez,⟨wdt,trivial⟩⟩⟩⟩⟩⟩
def G28:Glob:=G27.add 39 wf8
theorem G28_ok:GlobOk Try.prog G28:=G27_ok.add ⟨Try.f39,Try.func39,by kernel_rfl,by kernel_rfl⟩ wkg
def v2k:q34T→List AV:=fun x=>[.bp 0 0,.bp 1 0,.bp 2 0,.i x.1,.i x.2.1]
def v0v:q34T→St:=fun x=>let xh:=x.2.2.2.2.2.2.2.2;[.box [.lst tVersion x.2.2.1,.lst tTxn x.2.2.2.1,.lst tTxn x.2.2.2.2.1,.i x.2.2.2.2.2.1,.i x.2.2.2.2.2.2.1],.box [.nilS,.nilS,.nilS,.i x.2.2.2.2.2.2.2.1,.i xh.1],.box [.own 3,.own 4,.own 5,.i xh.2.1,.i xh.2.2.1],.arr tVersion xh.2.2.2.1,.arr tTxn xh.2.2.2.2.1,.arr tTxn xh.2.2.2.2.2]
def vt3:Nat→Option LoopSpec
 |0=>some (lpS [2,4,5,6,7] [] [.bp 0 0,.bp 1 0,.bp 2 0,.i,.i] [.box [.lst tVersion,.lst tTxn,.lst tTxn,.i,.i],.box [.nilS,.nilS,.nilS,.i,.i],.box [.own 3,.own 4,.own 5,.i,.i],.arr tVersion,.arr tTxn,.arr tTxn] vib (fun p q=>(p.2.2.2.1,p.2.2.2.2.1,q.1.1,q.1.2.1,q.1.2.2.1,q.1.2.2.2.1,q.1.2.2.2.2.1,q.2.1.2.2.2.1,q.2.1.2.2.2.2.1,q.2.2.1.2.2.2.1,q.2.2.1.2.2.2.2.1,q.2.2.2.1,q.2.2.2.2.1,q.2.2.2.2.2.1)) (fun k=>(onE (exZ (.exit 0) v2k v0v) k)))
 |1000008=>some ⟨[4,6,7],[],fun _ _ _=>none⟩
 |_=>none
theorem wcr:LpAt G28.shallow ⟨0,47,vt3⟩ Try.f14 0:=
 vau rfl (fun x=>(n67n_bp0 x).p) v2k v0v (exZ (.exit 0) v2k v0v) (fun _ _=>⟨rfl,rfl⟩) (fun z=>by(intro h;cases h)) (fun _ _=>rfl) (fun x=>by kernel_rfl)
theorem wlt:vad Try.prog 14 why:=
 va0 G28_ok.shallow follows (Try.f14.body.getD .skip) Try.func14 (by kernel_rfl) fun p q=>⟨vt3,(n67n_p _ _).p.map _,by rw [v8h];kernel_rfl,vab (ids:=[0]) (by kernel_rfl) (by kernel_rfl) ⟨wcr,trivial⟩⟩
def G29:Glob:=G28.add 14 why
theorem G29_ok:GlobOk Try.prog G29:=G28_ok.add ⟨Try.f14,Try.func14,by kernel_rfl,by kernel_rfl⟩ wlt
def v2c:q41T→List AV:=fun x=>[.bp 0 0,.i x.1,.own 5,.i x.2.1]
def v2u:q41T→St:=fun x=>[.box [.own 1,.own 2,.own 3,.i x.2.2.1,.i x.2.2.2.1,.own 4],.arr tVersion x.2.2.2.2.1,.arr tTxn x.2.2.2.2.2.1,.arr tTxn x.2.2.2.2.2.2.1,.arr tTxn x.2.2.2.2.2.2.2.1,.arr tTxn x.2.2.2.2.2.2.2.2]
def vu7:Nat→Option LoopSpec
 |0=>some (lpS [0,1,4,5] [] [.bp 0 0,.i,.own 5,.i] [.box [.own 1,.own 2,.own 3,.i,.i,.own 4],.arr tVersion,.arr tTxn,.arr tTxn,.arr tTxn,.arr tTxn] vjf (fun p q=>(p.2.1,p.2.2.2.1,q.1.2.2.2.1,q.1.2.2.2.2.1,q.2.1,q.2.2.1,q.2.2.2.1,q.2.2.2.2.1,q.2.2.2.2.2.1)) (fun k=>(onE (exZ (.exit 0) v2c v2u) k)))
 |_=>none
theorem weh:LpAt G29.shallow ⟨5,49,vu7⟩ Try.f50 0:=
 vau rfl (fun x=>(n74n_bp0 x).p) v2c v2u (exZ (.exit 0) v2c v2u) (fun _ _=>⟨rfl,rfl⟩) (fun z=>by(intro h;cases h)) (fun _ _=>rfl) (fun x=>by kernel_rfl)
theorem wks:vad Try.prog 50 wf9:=
 va0 G29_ok.shallow follows (Try.f50.body.getD .skip) Try.func50 (by kernel_rfl) fun p q=>⟨vu7,(n74n_p _ _ _ _ _ _ _).p.map _,by rw [v7z];kernel_rfl,vab (ids:=[0]) (by kernel_rfl) (by kernel_rfl) ⟨weh,trivial⟩⟩
def G30:Glob:=G29.add 50 wf9
theorem G30_ok:GlobOk Try.prog G30:=G29_ok.add ⟨Try.f50,Try.func50,by kernel_rfl,by kernel_rfl⟩ wks
def v6a:Nat→Option LoopSpec
 |_=>none
theorem wlu:vad Try.prog 20 whe:=
 va0 G30_ok.shallow follows (Try.f20.body.getD .skip) Try.func20 (by kernel_rfl) fun p q=>⟨v6a,(n64n_p _ _).p.map2 _ _,by rw [v3b];kernel_rfl,vab (ids:=[]) (by kernel_rfl) (by kernel_rfl) trivial⟩
def G31:Glob:=G30.add 20 whe
theorem G31_ok:GlobOk Try.prog G31:=G30_ok.add ⟨Try.f20,Try.func20,by kernel_rfl,by kernel_rfl⟩ wlu
def v6d:Nat→Option LoopSpec
 |_=>none
theorem wjs:vad Try.prog 73 wgv:=
 va0 G31_ok follows (Try.f73.body.getD .skip) Try.func73 (by kernel_rfl) fun p q=>⟨v6d,(n10n_p _).p.map _,by rw [wbc];kernel_rfl,vab (ids:=[]) (by kernel_rfl) (by kernel_rfl) trivial⟩
def G32:Glob:=G31.add 73 wgv
theorem G32_ok:GlobOk Try.prog G32:=G31_ok.add ⟨Try.f73,Try.func73,by kernel_rfl,by kernel_rfl⟩ wjs
def v17:q5T→List AV:=fun x=>[.own 0,.lst tTxn x.1,.i x.2.1,.i x.2.2.1]
def v2p:q5T→St:=fun x=>[.dep tTxn x.2.2.2 0 []]
def vuf:Nat→Option LoopSpec
 |0=>some (lpS [3,6,7,8] [some tTxn] [.own 0,.lst tTxn,.i,.i] [.dep tTxn 0] vi7 (fun p q=>(p.2.1,p.2.2.1,p.2.2.2.1,q.1)) (fun k=>(onE (exZ (.exit 0) v17 v2p) k)))
 |_=>none
theorem wec:LpAt G32 ⟨0,19,vuf⟩ Try.f56 0:=
 vau rfl (fun x=>(n11n_bp0 x).p) v17 v2p (exZ (.exit 0) v17 v2p) (fun _ _=>⟨rfl,rfl⟩) (fun z=>by(intro h;cases h)) (fun _ _=>rfl) (fun x=>by kernel_rfl)
theorem wk7:vad Try.prog 56 wge:=
 va0 G32_ok follows (Try.f56.body.getD .skip) Try.func56 (by kernel_rfl) fun p q=>⟨vuf,(n11n_p _).p.map _,by rw [v71];kernel_rfl,vab (ids:=[0]) (by kernel_rfl) (by kernel_rfl) ⟨wec,trivial⟩⟩
def G33:Glob:=G32.add 56 wge
theorem G33_ok:GlobOk Try.prog G33:=G32_ok.add ⟨Try.f56,Try.func56,by kernel_rfl,by kernel_rfl⟩ wk7
def v61:Nat→Option LoopSpec
 |2000002=>some ⟨[0,2,6,8,5,12,11,14,16,18],[],fun _ _ _=>none⟩
 |_=>none
theorem wlv:vad Try.prog 30 wg5:=
 va0 G33_ok follows (Try.f30.body.getD .skip) Try.func30 (by kernel_rfl) fun p q=>⟨v61,(n08n_p _).p.map _,by rw [v4a];kernel_rfl,vab (ids:=[]) (by kernel_rfl) (by kernel_rfl) trivial⟩
def G34:Glob:=G33.add 30 wg5
theorem G34_ok:GlobOk Try.prog G34:=G33_ok.add ⟨Try.f30,Try.func30,by kernel_rfl,by kernel_rfl⟩ wlv
def v62:Nat→Option LoopSpec
 |2000001=>some ⟨[0,2,6,8,5,11,12,14],[],fun _ _ _=>none⟩
 |_=>none
theorem wli:vad Try.prog 70 wgm:=
 va0 G34_ok follows (Try.f70.body.getD .skip) Try.func70 (by kernel_rfl) fun p q=>⟨v62,(n09n_p _).p.map _,by rw [v8w];kernel_rfl,vab (ids:=[]) (by kernel_rfl) (by kernel_rfl) trivial⟩
def G35:Glob:=G34.add 70 wgm
theorem G35_ok:GlobOk Try.prog G35:=G34_ok.add ⟨Try.f70,Try.func70,by kernel_rfl,by kernel_rfl⟩ wli
def v6w:Nat→Option LoopSpec
 |_=>none
theorem wk8:vad Try.prog 71 wf2:=
 va0 G35_ok follows (Try.f71.body.getD .skip) Try.func71 (by kernel_rfl) fun p q=>⟨v6w,(n14n_p _ _).p.map _,by rw [wb1];kernel_rfl,vab (ids:=[]) (by kernel_rfl) (by kernel_rfl) trivial⟩
def G36:Glob:=G35.add 71 wf2
theorem G36_ok:GlobOk Try.prog G36:=G35_ok.add ⟨Try.f71,Try.func71,by kernel_rfl,by kernel_rfl⟩ wk8
def v6s:Nat→Option LoopSpec
 |_=>none
theorem wkh:vad Try.prog 72 wgy:=
 va0 G36_ok follows (Try.f72.body.getD .skip) Try.func72 (by kernel_rfl) fun p q=>⟨v6s,(n03n_p _ _).p.map _,by rw [v94];kernel_rfl,vab (ids:=[]) (by kernel_rfl) (by kernel_rfl) trivial⟩
def G37:Glob:=G36.add 72 wgy
theorem G37_ok:GlobOk Try.prog G37:=G36_ok.add ⟨Try.f72,Try.func72,by kernel_rfl,by kernel_rfl⟩ wkh
def v6z:Nat→Option LoopSpec
 |_=>none
theorem wkt:vad Try.prog 42 wg6:=
 va0 G37_ok follows (Try.f42.body.getD .skip) Try.func42 (by kernel_rfl) fun p q=>⟨v6z,(n05n_p _ _).p.map _,by rw [v9c];kernel_rfl,vab (ids:=[]) (by kernel_rfl) (by kernel_rfl) trivial⟩
def G38:Glob:=G37.add 42 wg6
theorem G38_ok:GlobOk Try.prog G38:=G37_ok.add ⟨Try.f42,Try.func42,by kernel_rfl,by kernel_rfl⟩ wkt
def vpp:q6T→List AV:=fun x=>[.lst tTxn x.1,.fn 71 [.bp 0 0],.i x.2.1,.i x.2.2.1,.i x.2.2.2.1]
def vp9:q6T→St:=fun x=>[.box [.i x.2.2.2.2]]
def vvj:Nat→Option LoopSpec
 |0=>some (lpS [0,1,4,7,8] [] [.lst tTxn,.fn 71 [.bp 0 0],.i,.i,.i] [.box [.i]] vjq (fun p q=>(p.1,p.2.2.1,p.2.2.2.1,p.2.2.2.2.1,q.1.1)) (fun k=>(Sum.elim (onE (exZ .ret vpp vp9) k) (onE (exZ (.exit 0) vpp vp9) k))))
 |_=>none
theorem wer:LpAt G38 ⟨1,19,vvj⟩ Try.f57 0:=
 vau rfl (fun x=>(n63n_bp0 x).p) vpp vp9 (Sum.elim ((exZ .ret vpp vp9)) ((exZ (.exit 0) vpp vp9))) (fun _ _=>⟨rfl,rfl⟩) (fun z=>by rcases z with z|z<;>(intro h;cases h)) (fun k z=>by rcases z with z|z<;>rfl) (fun x=>by kernel_rfl)
def vsc:q6T→List AV:=fun x=>[.lst tTxn x.1,.fn 72 [.bp 0 0],.i x.2.1,.i x.2.2.1,.i x.2.2.2.1]
def vpq:q6T→St:=fun x=>[.box [.i x.2.2.2.2]]
def vub:Nat→Option LoopSpec
 |0=>some (lpS [0,1,4,7,8] [] [.lst tTxn,.fn 72 [.bp 0 0],.i,.i,.i] [.box [.i]] vil (fun p q=>(p.1,p.2.2.1,p.2.2.2.1,p.2.2.2.2.1,q.1.1)) (fun k=>(Sum.elim (onE (exZ .ret vsc vpq) k) (onE (exZ (.exit 0) vsc vpq) k))))
 |_=>none
theorem wdj:LpAt G38 ⟨1,19,vub⟩ Try.f57 0:=
 vau rfl (fun x=>(n61n_bp0 x).p) vsc vpq (Sum.elim ((exZ .ret vsc vpq)) ((exZ (.exit 0) vsc vpq))) (fun _ _=>⟨rfl,rfl⟩) (fun z=>by rcases z with z|z<;>(intro h;cases h)) (fun k z=>by rcases z with z|z<;>rfl) (fun x=>by kernel_rfl)
def vqm:q6T→List AV:=fun x=>[.lst tTxn x.1,.fn 42 [.bp 0 0],.i x.2.1,.i x.2.2.1,.i x.2.2.2.1]
def vrg:q6T→St:=fun x=>[.box [.i x.2.2.2.2]]
def vv4:Nat→Option LoopSpec
 |0=>some (lpS [0,1,4,7,8] [] [.lst tTxn,.fn 42 [.bp 0 0],.i,.i,.i] [.box [.i]] vix (fun p q=>(p.1,p.2.2.1,p.2.2.2.1,p.2.2.2.2.1,q.1.1)) (fun k=>(Sum.elim (onE (exZ .ret vqm vrg) k) (onE (exZ (.exit 0) vqm vrg) k))))
 |_=>none
theorem wca:LpAt G38 ⟨1,19,vv4⟩ Try.f57 0:=
 vau rfl (fun x=>(n62n_bp0 x).p) vqm vrg (Sum.elim ((exZ .ret vqm vrg)) ((exZ (.exit 0) vqm vrg))) (fun _ _=>⟨rfl,rfl⟩) (fun z=>by rcases z with z|z<;>(intro h;cases h)) (fun k z=>by rcases z with z|z<;>rfl) (fun x=>by kernel_rfl)
theorem via:vad Try.prog 57 va5:=by
 refine told G38_ok follows Try.func57 (c:=Try.f57.body.getD .skip) (by kernel_rfl) ?_
 intro args s k r hk
 unfold va5 at hk
 rcases vg8 hk with⟨p,q,rfl,rfl⟩|hk
 ·exact⟨vvj,(n63n_p p.1 q.1.1).p.map _,by unfold va5;rw [waz];kernel_rfl,vab (ids:=[0]) (by kernel_rfl) (by kernel_rfl) ⟨wer,trivial⟩⟩
 rcases vg8 hk with⟨p,q,rfl,rfl⟩|hk
 ·exact⟨vub,(n61n_p p.1 q.1.1).p.map _,by unfold va5;rw [wbf];kernel_rfl,vab (ids:=[0]) (by kernel_rfl) (by kernel_rfl) ⟨wdj,trivial⟩⟩
 rcases vg8 hk with⟨p,q,rfl,rfl⟩|hk
 ·exact⟨vv4,(n62n_p p.1 q.1.1).p.map _,by unfold va5;rw [wbp];kernel_rfl,vab (ids:=[0]) (by kernel_rfl) (by kernel_rfl) ⟨wca,trivial⟩⟩
 cases hk
def G39:Glob:=G38.add 57 va5
theorem G39_ok:GlobOk Try.prog G39:=G38_ok.add ⟨Try.f57,Try.func57,by kernel_rfl,by kernel_rfl⟩ via
def vgz:Nat→Option LoopSpec
 |0=>some ⟨[0,1,5,6],[],fun vals st k=>vaf [.own 0,.fn 71 [.bp 1 0],.i,.i] [.mov tTxn 0,.box [.i]] vals st (fun p q=>vac ve6 Fuel (.inl (p.2.2.1,p.2.2.2.1,q.1.1,q.1.2,q.2.1.1)) (Sum.elim (fun z=>k (.exit 0) [.own 0,.fn 71 [.bp 1 0],.i z.1,.i z.2.1] [.dep tTxn z.2.2.1 0 z.2.2.2.1,.box [.i z.2.2.2.2]]) (fun z=>k (.exit 0) [.own 0,.fn 71 [.bp 1 0],.i z.1,.i z.2.1] [.dep tTxn z.2.2.1 1 z.2.2.2.1,.box [.i z.2.2.2.2]])))
   (vaf [.own 0,.fn 71 [.bp 1 0],.i,.i] [.mov tTxn 1,.box [.i]] vals st (fun p q=>vac ve6 Fuel (.inr (p.2.2.1,p.2.2.2.1,q.1.1,q.1.2,q.2.1.1)) (Sum.elim (fun z=>k (.exit 0) [.own 0,.fn 71 [.bp 1 0],.i z.1,.i z.2.1] [.dep tTxn z.2.2.1 0 z.2.2.2.1,.box [.i z.2.2.2.2]]) (fun z=>k (.exit 0) [.own 0,.fn 71 [.bp 1 0],.i z.1,.i z.2.1] [.dep tTxn z.2.2.1 1 z.2.2.2.1,.box [.i z.2.2.2.2]])))
   (none))⟩
 |_=>none
def vxu:((Int×Int×(List dTxn)×(List Nat)×Int)⊕(Int×Int×(List dTxn)×(List Nat)×Int))→List AV:=(Sum.elim (fun x=>[.own 0,.fn 71 [.bp 1 0],.i x.1,.i x.2.1]) (fun x=>[.own 0,.fn 71 [.bp 1 0],.i x.1,.i x.2.1]))
def vwb:((Int×Int×(List dTxn)×(List Nat)×Int)⊕(Int×Int×(List dTxn)×(List Nat)×Int))→St:=(Sum.elim (fun x=>[.dep tTxn x.2.2.1 0 x.2.2.2.1,.box [.i x.2.2.2.2]]) (fun x=>[.dep tTxn x.2.2.1 1 x.2.2.2.1,.box [.i x.2.2.2.2]]))
def vso:((Int×Int×(List dTxn)×(List Nat)×Int)⊕(Int×Int×(List dTxn)×(List Nat)×Int))→Out×List AV×St:=(Sum.elim (fun z=>((.exit 0),[.own 0,.fn 71 [.bp 1 0],.i z.1,.i z.2.1],[.dep tTxn z.2.2.1 0 z.2.2.2.1,.box [.i z.2.2.2.2]])) (fun z=>((.exit 0),[.own 0,.fn 71 [.bp 1 0],.i z.1,.i z.2.1],[.dep tTxn z.2.2.1 1 z.2.2.2.1,.box [.i z.2.2.2.2]])))
theorem v4m (x:((Int×Int×(List dTxn)×(List Nat)×Int)⊕(Int×Int×(List dTxn)×(List Nat)×Int))):exec G39 ⟨2,42,vgz⟩ (vc1 Try.f31 0) (vku ⟨2,42,vgz⟩ [0,1,5,6] []) (vej (vds 42) [0,1,5,6] (vxu x)) (vwb x)=ve6 x (Sum.elim (fun y=>some ⟨.norm,vxu y,vwb y⟩) fun z=>some ⟨(vso z).1,(vso z).2.1,(vso z).2.2⟩):=by
 rcases x with x|x<;>kernel_rfl
theorem wft:∀sp,(vgz 0)=some sp→vzu G39 ⟨2,42,vgz⟩ sp (vc1 Try.f31 0):=by
 intro sp hsp vals st k r h
 cases hsp
 dsimp only at h
 rcases vbw h with⟨p,q,rfl,rfl,h⟩|h
 ·exact vg2 (fun x=>(n60n_bp0 x).p) vxu vwb vso (fun z=>by rcases z with z|z<;>(intro h;cases h)) v4m Fuel (.inl (p.2.2.1,p.2.2.2.1,q.1.1,q.1.2,q.2.1.1)) _ k r (fun z=>by rcases z with z|z<;>rfl) h
 rcases vbw h with⟨p,q,rfl,rfl,h⟩|h
 ·exact vg2 (fun x=>(n60n_bp0 x).p) vxu vwb vso (fun z=>by rcases z with z|z<;>(intro h;cases h)) v4m Fuel (.inr (p.2.2.1,p.2.2.2.1,q.1.1,q.1.2,q.2.1.1)) _ k r (fun z=>by rcases z with z|z<;>rfl) h
 cases h
def vgs:Nat→Option LoopSpec
 |0=>some ⟨[0,1,5,6],[],fun vals st k=>vaf [.own 0,.fn 42 [.bp 1 0],.i,.i] [.mov tTxn 0,.box [.i]] vals st (fun p q=>vac ve7 Fuel (.inl (p.2.2.1,p.2.2.2.1,q.1.1,q.1.2,q.2.1.1)) (Sum.elim (fun z=>k (.exit 0) [.own 0,.fn 42 [.bp 1 0],.i z.1,.i z.2.1] [.dep tTxn z.2.2.1 0 z.2.2.2.1,.box [.i z.2.2.2.2]]) (fun z=>k (.exit 0) [.own 0,.fn 42 [.bp 1 0],.i z.1,.i z.2.1] [.dep tTxn z.2.2.1 1 z.2.2.2.1,.box [.i z.2.2.2.2]])))
   (vaf [.own 0,.fn 42 [.bp 1 0],.i,.i] [.mov tTxn 1,.box [.i]] vals st (fun p q=>vac ve7 Fuel (.inr (p.2.2.1,p.2.2.2.1,q.1.1,q.1.2,q.2.1.1)) (Sum.elim (fun z=>k (.exit 0) [.own 0,.fn 42 [.bp 1 0],.i z.1,.i z.2.1] [.dep tTxn z.2.2.1 0 z.2.2.2.1,.box [.i z.2.2.2.2]]) (fun z=>k (.exit 0) [.own 0,.fn 42 [.bp 1 0],.i z.1,.i z.2.1] [.dep tTxn z.2.2.1 1 z.2.2.2.1,.box [.i z.2.2.2.2]])))
   (none))⟩
 |_=>none
def vwk:((Int×Int×(List dTxn)×(List Nat)×Int)⊕(Int×Int×(List dTxn)×(List Nat)×Int))→List AV:=(Sum.elim (fun x=>[.own 0,.fn 42 [.bp 1 0],.i x.1,.i x.2.1]) (fun x=>[.own 0,.fn 42 [.bp 1 0],.i x.1,.i x.2.1]))
def vw2:((Int×Int×(List dTxn)×(List Nat)×Int)⊕(Int×Int×(List dTxn)×(List Nat)×Int))→St:=(Sum.elim (fun x=>[.dep tTxn x.2.2.1 0 x.2.2.2.1,.box [.i x.2.2.2.2]]) (fun x=>[.dep tTxn x.2.2.1 1 x.2.2.2.1,.box [.i x.2.2.2.2]]))
def vsh:((Int×Int×(List dTxn)×(List Nat)×Int)⊕(Int×Int×(List dTxn)×(List Nat)×Int))→Out×List AV×St:=(Sum.elim (fun z=>((.exit 0),[.own 0,.fn 42 [.bp 1 0],.i z.1,.i z.2.1],[.dep tTxn z.2.2.1 0 z.2.2.2.1,.box [.i z.2.2.2.2]])) (fun z=>((.exit 0),[.own 0,.fn 42 [.bp 1 0],.i z.1,.i z.2.1],[.dep tTxn z.2.2.1 1 z.2.2.2.1,.box [.i z.2.2.2.2]])))
theorem v3p (x:((Int×Int×(List dTxn)×(List Nat)×Int)⊕(Int×Int×(List dTxn)×(List Nat)×Int))):exec G39 ⟨2,42,vgs⟩ (vc1 Try.f31 0) (vku ⟨2,42,vgs⟩ [0,1,5,6] []) (vej (vds 42) [0,1,5,6] (vwk x)) (vw2 x)=ve7 x (Sum.elim (fun y=>some ⟨.norm,vwk y,vw2 y⟩) fun z=>some ⟨(vsh z).1,(vsh z).2.1,(vsh z).2.2⟩):=by
 rcases x with x|x<;>kernel_rfl
theorem wd3:∀sp,(vgs 0)=some sp→vzu G39 ⟨2,42,vgs⟩ sp (vc1 Try.f31 0):=by
 intro sp hsp vals st k r h
 cases hsp
 dsimp only at h
 rcases vbw h with⟨p,q,rfl,rfl,h⟩|h
 ·exact vg2 (fun x=>(n59n_bp0 x).p) vwk vw2 vsh (fun z=>by rcases z with z|z<;>(intro h;cases h)) v3p Fuel (.inl (p.2.2.1,p.2.2.2.1,q.1.1,q.1.2,q.2.1.1)) _ k r (fun z=>by rcases z with z|z<;>rfl) h
 rcases vbw h with⟨p,q,rfl,rfl,h⟩|h
 ·exact vg2 (fun x=>(n59n_bp0 x).p) vwk vw2 vsh (fun z=>by rcases z with z|z<;>(intro h;cases h)) v3p Fuel (.inr (p.2.2.1,p.2.2.2.1,q.1.1,q.1.2,q.2.1.1)) _ k r (fun z=>by rcases z with z|z<;>rfl) h
 cases h
theorem vh1:vad Try.prog 31 vbe:=by
 refine told G39_ok follows Try.func31 (c:=Try.f31.body.getD .skip) (by kernel_rfl) ?_
 intro args s k r hk
 unfold vbe at hk
 rcases vg8 hk with⟨p,q,rfl,rfl⟩|hk
 ·exact⟨vgz,(n60n_p q.1 q.2.1.1).p.map2 _ _,by unfold vbe;rw [v9i];kernel_rfl,vab (ids:=[0]) (by kernel_rfl) (by kernel_rfl) ⟨wft,trivial⟩⟩
 rcases vg8 hk with⟨p,q,rfl,rfl⟩|hk
 ·exact⟨vgs,(n59n_p q.1 q.2.1.1).p.map2 _ _,by unfold vbe;rw [wa9];kernel_rfl,vab (ids:=[0]) (by kernel_rfl) (by kernel_rfl) ⟨wd3,trivial⟩⟩
 cases hk
def G40:Glob:=G39.add 31 vbe
theorem G40_ok:GlobOk Try.prog G40:=G39_ok.add ⟨Try.f31,Try.func31,by kernel_rfl,by kernel_rfl⟩ vh1
def v7f:Nat→Option LoopSpec
 |_=>none
theorem wj2:vad Try.prog 51 whg:=
 va0 G40_ok follows (Try.f51.body.getD .skip) Try.func51 (by kernel_rfl) fun p q=>⟨v7f,(n13n_p _ _).p.map _,by rw [v9v];kernel_rfl,vab (ids:=[]) (by kernel_rfl) (by kernel_rfl) trivial⟩
def G41:Glob:=G40.add 51 whg
theorem G41_ok:GlobOk Try.prog G41:=G40_ok.add ⟨Try.f51,Try.func51,by kernel_rfl,by kernel_rfl⟩ wj2
def v65:Nat→Option LoopSpec
 |_=>none
theorem wkf:vad Try.prog 52 whv:=
 va0 G41_ok follows (Try.f52.body.getD .skip) Try.func52 (by kernel_rfl) fun p q=>⟨v65,(n02n_p _ _).p.map _,by rw [v92];kernel_rfl,vab (ids:=[]) (by kernel_rfl) (by kernel_rfl) trivial⟩
def G42:Glob:=G41.add 52 whv
theorem G42_ok:GlobOk Try.prog G42:=G41_ok.add ⟨Try.f52,Try.func52,by kernel_rfl,by kernel_rfl⟩ wkf
def v18:q24T→List AV:=fun x=>[.i x.1,.lst tTxn x.2.1,.i x.2.2.1,.i x.2.2.2]
def v15:q24T→St:=fun x=>[]
def vut:Nat→Option LoopSpec
 |0=>some (lpS [5,10,11,12] [] [.i,.lst tTxn,.i,.i] [] vif (fun p q=>(p.1,p.2.1,p.2.2.1,p.2.2.2.1)) (fun k=>(onE (exZ (.exit 0) v18 v15) k)))
 |_=>none
theorem wea:LpAt G42 ⟨0,22,vut⟩ Try.f41 0:=
 vau rfl (fun x=>(n01n_bp0 x).p) v18 v15 (exZ (.exit 0) v18 v15) (fun _ _=>⟨rfl,rfl⟩) (fun z=>by(intro h;cases h)) (fun _ _=>rfl) (fun x=>by kernel_rfl)
theorem wku:vad Try.prog 41 whl:=
 va0 G42_ok follows (Try.f41.body.getD .skip) Try.func41 (by kernel_rfl) fun p q=>⟨vut,(n01n_p _ _).p.map _,by rw [v8s];kernel_rfl,vab (ids:=[0]) (by kernel_rfl) (by kernel_rfl) ⟨wea,trivial⟩⟩
def G43:Glob:=G42.add 41 whl
theorem G43_ok:GlobOk Try.prog G43:=G42_ok.add ⟨Try.f41,Try.func41,by kernel_rfl,by kernel_rfl⟩ wku
def v0w:q9T→List AV:=fun x=>[.lst tVersion x.1,.str x.2.1,.i x.2.2.1,.i x.2.2.2.1,.lst tVersion x.2.2.2.2.1,.i x.2.2.2.2.2.1,.i x.2.2.2.2.2.2]
def v1g:q9T→St:=fun x=>[]
def vux:Nat→Option LoopSpec
 |0=>some (lpS [0,1,2,7,10,11,12] [] [.lst tVersion,.str,.i,.i,.lst tVersion,.i,.i] [] vi6 (fun p q=>(p.1,p.2.1,p.2.2.1,p.2.2.2.1,p.2.2.2.2.1,p.2.2.2.2.2.1,p.2.2.2.2.2.2.1)) (fun k=>(onE (exZ (.exit 0) v0w v1g) k)))
 |2000005=>some ⟨[0,2,4,6,8,10,12,14,16,18,20,22,24,26,28,30,32,34,36,38,40,42,44,46],[],fun _ _ _=>none⟩
 |_=>none
theorem we7:LpAt G43 ⟨0,44,vux⟩ Try.f66 0:=
 vau rfl (fun x=>(n12n_bp0 x).p) v0w v1g (exZ (.exit 0) v0w v1g) (fun _ _=>⟨rfl,rfl⟩) (fun z=>by(intro h;cases h)) (fun _ _=>rfl) (fun x=>by kernel_rfl)
theorem wlm:vad Try.prog 66 wha:=
 va0 G43_ok follows (Try.f66.body.getD .skip) Try.func66 (by kernel_rfl) fun p q=>⟨vux,(n12n_p _ _ _).p.map _,by rw [v74];kernel_rfl,vab (ids:=[0]) (by kernel_rfl) (by kernel_rfl) ⟨we7,trivial⟩⟩
def G44:Glob:=G43.add 66 wha
theorem G44_ok:GlobOk Try.prog G44:=G43_ok.add ⟨Try.f66,Try.func66,by kernel_rfl,by kernel_rfl⟩ wlm
def v0x:q23T→List AV:=fun x=>[.str x.1,.i x.2.1,.own 1,.i x.2.2.1,.i x.2.2.2.1]
def v1o:q23T→St:=fun x=>[.box [.own 1],.arr tVersion x.2.2.2.2]
def vu6:Nat→Option LoopSpec
 |0=>some (lpS [0,4,7,8,9] [] [.str,.i,.own 1,.i,.i] [.box [.own 1],.arr tVersion] vjw (fun p q=>(p.1,p.2.1,p.2.2.2.1,p.2.2.2.2.1,q.2.1)) (fun k=>(onE (exZ (.exit 0) v0x v1o) k)))
 |_=>none
theorem wew:LpAt G44 ⟨2,21,vu6⟩ Try.f67 0:=
 vau rfl (fun x=>(n07n_bp0 x).p) v0x v1o (exZ (.exit 0) v0x v1o) (fun _ _=>⟨rfl,rfl⟩) (fun z=>by(intro h;cases h)) (fun _ _=>rfl) (fun x=>by kernel_rfl)
theorem wkx:vad Try.prog 67 whw:=
 va0 G44_ok follows (Try.f67.body.getD .skip) Try.func67 (by kernel_rfl) fun p q=>⟨vu6,(n07n_p _ _).p.map _,by rw [wbu];kernel_rfl,vab (ids:=[0]) (by kernel_rfl) (by kernel_rfl) ⟨wew,trivial⟩⟩
def G45:Glob:=G44.add 67 whw
theorem G45_ok:GlobOk Try.prog G45:=G44_ok.add ⟨Try.f67,Try.func67,by kernel_rfl,by kernel_rfl⟩ wkx
def vev:q12T→List AV:=fun x=>[.lst tVersion x.1,.i x.2.1,.bp 0 0,.bp 1 0,.lst tVersion x.2.2.1,.i x.2.2.2.1,.i x.2.2.2.2.1,.bool x.2.2.2.2.2.1]
def vfd:q12T→St:=fun x=>let xh:=x.2.2.2.2.2.2.2.2;[.box [.own 2],.box [.str x.2.2.2.2.2.2.1,.str x.2.2.2.2.2.2.2.1,.bool xh.1,.i xh.2.1],.arr tVersion xh.2.2]
def v11:q11T→List AV:=fun x=>[.lst tVersion x.1,.i x.2.1,.bp 0 0,.lst tVersion x.2.2.1,.i x.2.2.2.1,.i x.2.2.2.2.1]
def v1i:q11T→St:=fun x=>[.box [.own 1],.arr tVersion x.2.2.2.2.2]
def v0l:q40T→List AV:=fun x=>[.i x.1,.fn 67 [.bp 0 0],.own 1,.own 2,.i x.2.1,.i x.2.2.1]
def v06:q40T→St:=fun x=>[.box [.own 2],.arr tVersion x.2.2.2.1,.arr tVersion x.2.2.2.2]
def vkj:Nat→Option LoopSpec
 |15000006=>some (ctS [0,1,5,7,12,13,14,31] [none,none,none,none,none,none,none,none,some tVersion] [.lst tVersion,.i,.bp 0 0,.bp 1 0,.lst tVersion,.i,.i,.bool] [.box [.own 2],.box [.str,.str,.bool,.i],.arr tVersion] vb0 (fun p q=>(p.1,p.2.1,p.2.2.2.2.1,p.2.2.2.2.2.1,p.2.2.2.2.2.2.1,p.2.2.2.2.2.2.2.1,q.2.1.1,q.2.1.2.1,q.2.1.2.2.1,q.2.1.2.2.2.1,q.2.2.1)) (fun k=>(onE (exZ .norm vev vfd) k)))
 |0=>some (lpS [0,1,5,12,13,14] [none,none,none,none,none,none,some tVersion] [.lst tVersion,.i,.bp 0 0,.lst tVersion,.i,.i] [.box [.own 1],.arr tVersion] vir (fun p q=>(p.1,p.2.1,p.2.2.2.1,p.2.2.2.2.1,p.2.2.2.2.2.1,q.2.1)) (fun k=>(onE (exZ (.exit 0) v11 v1i) k)))
 |2=>some (lpS [1,8,9,38,39,40] [none,none,some tVersion,some tVersion,none,none,some tVersion] [.i,.fn 67 [.bp 0 0],.own 1,.own 2,.i,.i] [.box [.own 2],.arr tVersion,.arr tVersion] vii (fun p q=>(p.1,p.2.2.2.2.1,p.2.2.2.2.2.1,q.2.1,q.2.2.1)) (fun k=>(onE (exZ (.exit 2) v0l v06) k)))
 |_=>none
theorem vp7:CtAt G45 ⟨0,66,vkj⟩ Try.f43 15000006:=
 vin rfl (fun x=>(n06n_jp15000006 x).p) vev vfd (exZ .norm vev vfd) (fun _ _=>⟨rfl,rfl⟩) (fun _ _=>rfl) (fun x=>by kernel_rfl)
theorem wfa:LpAt G45 ⟨0,66,vkj⟩ Try.f43 0:=
 vau rfl (fun x=>(n06n_bp0 x).p) v11 v1i (exZ (.exit 0) v11 v1i) (fun _ _=>⟨rfl,rfl⟩) (fun z=>by(intro h;cases h)) (fun _ _=>rfl) (fun x=>by kernel_rfl)
theorem wdi:LpAt G45 ⟨0,66,vkj⟩ Try.f43 2:=
 vau rfl (fun x=>(n06n_bp2 x).p) v0l v06 (exZ (.exit 2) v0l v06) (fun _ _=>⟨rfl,rfl⟩) (fun z=>by(intro h;cases h)) (fun _ _=>rfl) (fun x=>by kernel_rfl)
theorem wl6:vad Try.prog 43 wgb:=
 va0 G45_ok follows (Try.f43.body.getD .skip) Try.func43 (by kernel_rfl) fun p q=>⟨vkj,(n06n_p _ _).p.map _,by rw [v9j];kernel_rfl,vab (ids:=[15000006,0,2]) (by kernel_rfl) (by kernel_rfl) ⟨vp7,⟨wfa,⟨wdi,trivial⟩⟩⟩⟩
def G46:Glob:=G45.add 43 wgb
theorem G46_ok:GlobOk Try.prog G46:=G45_ok.add ⟨Try.f43,Try.func43,by kernel_rfl,by kernel_rfl⟩ wl6
def v51:Nat→Option LoopSpec
 |_=>none
theorem wkc:vad Try.prog 16 wht:=
 va0 G46_ok follows (Try.f16.body.getD .skip) Try.func16 (by kernel_rfl) fun p q=>⟨v51,(n04n_p _ _).p.map _,by rw [wba];kernel_rfl,vab (ids:=[]) (by kernel_rfl) (by kernel_rfl) trivial⟩
def G47:Glob:=G46.add 16 wht
theorem G47_ok:GlobOk Try.prog G47:=G46_ok.add ⟨Try.f16,Try.func16,by kernel_rfl,by kernel_rfl⟩ wkc
def v5y:Nat→Option LoopSpec
 |_=>none
theorem wk2:vad Try.prog 22 wgg:=
 va0 G47_ok follows (Try.f22.body.getD .skip) Try.func22 (by kernel_rfl) fun p q=>⟨v5y,(n00n_p _ _).p.map _,by rw [v5c];kernel_rfl,vab (ids:=[]) (by kernel_rfl) (by kernel_rfl) trivial⟩
def G48:Glob:=G47.add 22 wgg
theorem G48_ok:GlobOk Try.prog G48:=G47_ok.add ⟨Try.f22,Try.func22,by kernel_rfl,by kernel_rfl⟩ wk2
def v69:Nat→Option LoopSpec
 |_=>none
theorem wl1:vad Try.prog 58 whi:=
 va0 G48_ok follows (Try.f58.body.getD .skip) Try.func58 (by kernel_rfl) fun p q=>⟨v69,(n22n_p _ _).p.map _,by rw [v8q];kernel_rfl,vab (ids:=[]) (by kernel_rfl) (by kernel_rfl) trivial⟩
def G49:Glob:=G48.add 58 whi
theorem G49_ok:GlobOk Try.prog G49:=G48_ok.add ⟨Try.f58,Try.func58,by kernel_rfl,by kernel_rfl⟩ wl1
def vp2:q8T→List AV:=fun x=>[.lst tVersion x.1,.lst tVersion x.2.1,.bool x.2.2.1,.i x.2.2.2]
def vqi:q8T→St:=fun x=>[]
def vuu:Nat→Option LoopSpec
 |0=>some (lpS [0,1,4,5] [] [.lst tVersion,.lst tVersion,.bool,.i] [] vju (fun p q=>(p.1,p.2.1,p.2.2.1,p.2.2.2.1)) (fun k=>(Sum.elim (onE (exZ .ret vp2 vqi) k) (onE (exZ (.exit 0) vp2 vqi) k))))
 |2000006=>some ⟨[0,2,4,6,8,10,12,14,16,18],[],fun _ _ _=>none⟩
 |_=>none
theorem wdm:LpAt G49 ⟨0,27,vuu⟩ Try.f33 0:=
 vau rfl (fun x=>(n23n_bp0 x).p) vp2 vqi (Sum.elim ((exZ .ret vp2 vqi)) ((exZ (.exit 0) vp2 vqi))) (fun _ _=>⟨rfl,rfl⟩) (fun z=>by rcases z with z|z<;>(intro h;cases h)) (fun k z=>by rcases z with z|z<;>rfl) (fun x=>by kernel_rfl)
theorem wjo:vad Try.prog 33 whq:=
 va0 G49_ok follows (Try.f33.body.getD .skip) Try.func33 (by kernel_rfl) fun p q=>⟨vuu,(n23n_p _ _).p.map _,by rw [v72];kernel_rfl,vab (ids:=[0]) (by kernel_rfl) (by kernel_rfl) ⟨wdm,trivial⟩⟩
def G50:Glob:=G49.add 33 whq
theorem G50_ok:GlobOk Try.prog G50:=G49_ok.add ⟨Try.f33,Try.func33,by kernel_rfl,by kernel_rfl⟩ wjo
def v63:Nat→Option LoopSpec
 |_=>none
theorem wjl:vad Try.prog 78 wg7:=
 va0 G50_ok follows (Try.f78.body.getD .skip) Try.func78 (by kernel_rfl) fun p q=>⟨v63,(n18n_p _ _).p.map _,by rw [wao];kernel_rfl,vab (ids:=[]) (by kernel_rfl) (by kernel_rfl) trivial⟩
def G51:Glob:=G50.add 78 wg7
theorem G51_ok:GlobOk Try.prog G51:=G50_ok.add ⟨Try.f78,Try.func78,by kernel_rfl,by kernel_rfl⟩ wjl
def vsn:q0T→List AV:=fun x=>[.lst tRange x.1,.lst tRange x.2.1,.bool x.2.2.1,.i x.2.2.2]
def vro:q0T→St:=fun x=>[]
def vt9:Nat→Option LoopSpec
 |0=>some (lpS [0,1,4,5] [] [.lst tRange,.lst tRange,.bool,.i] [] vi1 (fun p q=>(p.1,p.2.1,p.2.2.1,p.2.2.2.1)) (fun k=>(Sum.elim (onE (exZ .ret vsn vro) k) (onE (exZ (.exit 0) vsn vro) k))))
 |2000006=>some ⟨[0,2,4,6,8,10,12,14,16,18],[],fun _ _ _=>none⟩
 |_=>none
theorem wej:LpAt G51 ⟨0,27,vt9⟩ Try.f68 0:=
 vau rfl (fun x=>(n19n_bp0 x).p) vsn vro (Sum.elim ((exZ .ret vsn vro)) ((exZ (.exit 0) vsn vro))) (fun _ _=>⟨rfl,rfl⟩) (fun z=>by rcases z with z|z<;>(intro h;cases h)) (fun k z=>by rcases z with z|z<;>rfl) (fun x=>by kernel_rfl)
theorem wle:vad Try.prog 68 wg0:=
 va0 G51_ok follows (Try.f68.body.getD .skip) Try.func68 (by kernel_rfl) fun p q=>⟨vt9,(n19n_p _ _).p.map _,by rw [v7t];kernel_rfl,vab (ids:=[0]) (by kernel_rfl) (by kernel_rfl) ⟨wej,trivial⟩⟩
def G52:Glob:=G51.add 68 wg0
theorem G52_ok:GlobOk Try.prog G52:=G51_ok.add ⟨Try.f68,Try.func68,by kernel_rfl,by kernel_rfl⟩ wle
def v5w:Nat→Option LoopSpec
 |_=>none
theorem wjj:vad Try.prog 79 wgn:=
 va0 G52_ok follows (Try.f79.body.getD .skip) Try.func79 (by kernel_rfl) fun p q=>⟨v5w,(n24n_p _ _).p.map _,by rw [v9t];kernel_rfl,vab (ids:=[]) (by kernel_rfl) (by kernel_rfl) trivial⟩
def G53:Glob:=G52.add 79 wgn
theorem G53_ok:GlobOk Try.prog G53:=G52_ok.add ⟨Try.f79,Try.func79,by kernel_rfl,by kernel_rfl⟩ wjj
def vqe:q17T→List AV:=fun x=>[.lst tWrite x.1,.lst tWrite x.2.1,.bool x.2.2.1,.i x.2.2.2]
def vqd:q17T→St:=fun x=>[]
def vt1:Nat→Option LoopSpec
 |0=>some (lpS [0,1,4,5] [] [.lst tWrite,.lst tWrite,.bool,.i] [] vjs (fun p q=>(p.1,p.2.1,p.2.2.1,p.2.2.2.1)) (fun k=>(Sum.elim (onE (exZ .ret vqe vqd) k) (onE (exZ (.exit 0) vqe vqd) k))))
 |2000006=>some ⟨[0,2,4,6,8,10,12,14,16,18],[],fun _ _ _=>none⟩
 |_=>none
theorem wdu:LpAt G53 ⟨0,27,vt1⟩ Try.f69 0:=
 vau rfl (fun x=>(n25n_bp0 x).p) vqe vqd (Sum.elim ((exZ .ret vqe vqd)) ((exZ (.exit 0) vqe vqd))) (fun _ _=>⟨rfl,rfl⟩) (fun z=>by rcases z with z|z<;>(intro h;cases h)) (fun k z=>by rcases z with z|z<;>rfl) (fun x=>by kernel_rfl)
theorem wl7:vad Try.prog 69 whb:=
 va0 G53_ok follows (Try.f69.body.getD .skip) Try.func69 (by kernel_rfl) fun p q=>⟨vt1,(n25n_p _ _).p.map _,by rw [v8g];kernel_rfl,vab (ids:=[0]) (by kernel_rfl) (by kernel_rfl) ⟨wdu,trivial⟩⟩
def G54:Glob:=G53.add 69 whb
theorem G54_ok:GlobOk Try.prog G54:=G53_ok.add ⟨Try.f69,Try.func69,by kernel_rfl,by kernel_rfl⟩ wl7
def v6n:Nat→Option LoopSpec
 |_=>none
theorem wl5:vad Try.prog 44 wg2:=
 va0 G54_ok follows (Try.f44.body.getD .skip) Try.func44 (by kernel_rfl) fun p q=>⟨v6n,(n20n_p _ _).p.map _,by rw [v8p];kernel_rfl,vab (ids:=[]) (by kernel_rfl) (by kernel_rfl) trivial⟩
def G55:Glob:=G54.add 44 wg2
theorem G55_ok:GlobOk Try.prog G55:=G54_ok.add ⟨Try.f44,Try.func44,by kernel_rfl,by kernel_rfl⟩ wl5
def vpk:q3T→List AV:=fun x=>[.lst tTxn x.1,.lst tTxn x.2.1,.bool x.2.2.1,.i x.2.2.2]
def vrl:q3T→St:=fun x=>[]
def vus:Nat→Option LoopSpec
 |0=>some (lpS [0,1,4,5] [] [.lst tTxn,.lst tTxn,.bool,.i] [] vjl (fun p q=>(p.1,p.2.1,p.2.2.1,p.2.2.2.1)) (fun k=>(Sum.elim (onE (exZ .ret vpk vrl) k) (onE (exZ (.exit 0) vpk vrl) k))))
 |2000006=>some ⟨[0,2,4,6,8,10,12,14,16,18],[],fun _ _ _=>none⟩
 |_=>none
theorem wed:LpAt G55 ⟨0,27,vus⟩ Try.f17 0:=
 vau rfl (fun x=>(n21n_bp0 x).p) vpk vrl (Sum.elim ((exZ .ret vpk vrl)) ((exZ (.exit 0) vpk vrl))) (fun _ _=>⟨rfl,rfl⟩) (fun z=>by rcases z with z|z<;>(intro h;cases h)) (fun k z=>by rcases z with z|z<;>rfl) (fun x=>by kernel_rfl)
theorem wjv:vad Try.prog 17 wf5:=
 va0 G55_ok follows (Try.f17.body.getD .skip) Try.func17 (by kernel_rfl) fun p q=>⟨vus,(n21n_p _ _).p.map _,by rw [v73];kernel_rfl,vab (ids:=[0]) (by kernel_rfl) (by kernel_rfl) ⟨wed,trivial⟩⟩
def G56:Glob:=G55.add 17 wf5
theorem G56_ok:GlobOk Try.prog G56:=G55_ok.add ⟨Try.f17,Try.func17,by kernel_rfl,by kernel_rfl⟩ wjv
def v6k:Nat→Option LoopSpec
 |_=>none
theorem wkb:vad Try.prog 10 whz:=
 va0 G56_ok follows (Try.f10.body.getD .skip) Try.func10 (by kernel_rfl) fun p q=>⟨v6k,(n16n_p _ _).p.map _,by rw [v40];kernel_rfl,vab (ids:=[]) (by kernel_rfl) (by kernel_rfl) trivial⟩
def G57:Glob:=G56.add 10 whz
theorem G57_ok:GlobOk Try.prog G57:=G56_ok.add ⟨Try.f10,Try.func10,by kernel_rfl,by kernel_rfl⟩ wkb
def v7d:Nat→Option LoopSpec
 |_=>none
theorem wk9:vad Try.prog 23 whj:=
 va0 G57_ok follows (Try.f23.body.getD .skip) Try.func23 (by kernel_rfl) fun p q=>⟨v7d,(n17n_p _ _).p.map _,by rw [v35];kernel_rfl,vab (ids:=[]) (by kernel_rfl) (by kernel_rfl) trivial⟩
def G58:Glob:=G57.add 23 whj
theorem G58_ok:GlobOk Try.prog G58:=G57_ok.add ⟨Try.f23,Try.func23,by kernel_rfl,by kernel_rfl⟩ wk9
def v1c:(Int×ByteArray)→List AV:=fun x=>[.i x.1,.str x.2]
def v00:(Int×ByteArray)→St:=fun x=>[]
def vto:Nat→Option LoopSpec
 |0=>some (lpS [0,3] [] [.i,.str] [] vlu (fun p q=>(p.1,p.2.1)) (fun k=>(onE (exZ (.exit 0) v1c v00) k)))
 |_=>none
theorem wdp:LpAt G58 ⟨0,20,vto⟩ Try.f47 0:=
 vau rfl (fun x=>(n35n_bp0 x).p) v1c v00 (exZ (.exit 0) v1c v00) (fun _ _=>⟨rfl,rfl⟩) (fun z=>by(intro h;cases h)) (fun _ _=>rfl) (fun x=>by kernel_rfl)
theorem wl2:vad Try.prog 47 wgu:=
 va0 G58_ok follows (Try.f47.body.getD .skip) Try.func47 (by kernel_rfl) fun p q=>⟨vto,(n35n_p _).p.map _,by rw [v7w];kernel_rfl,vab (ids:=[0]) (by kernel_rfl) (by kernel_rfl) ⟨wdp,trivial⟩⟩
def G59:Glob:=G58.add 47 wgu
theorem G59_ok:GlobOk Try.prog G59:=G58_ok.add ⟨Try.f47,Try.func47,by kernel_rfl,by kernel_rfl⟩ wl2
def v2s:(Int×Int×(List vaa))→List AV:=fun x=>[.own 0,.i x.1,.i x.2.1]
def v0t:(Int×Int×(List vaa))→St:=fun x=>[.arr tVersion x.2.2]
def vua:Nat→Option LoopSpec
 |0=>some (lpS [0,1,5] [] [.own 0,.i,.i] [.arr tVersion] vih (fun p q=>(p.2.1,p.2.2.1,q.1)) (fun k=>(onE (exZ (.exit 0) v2s v0t) k)))
 |_=>none
theorem wb5:LpAt G59 ⟨1,45,vua⟩ Try.f34 0:=
 vau rfl (fun x=>(n37n_bp0 x).p) v2s v0t (exZ (.exit 0) v2s v0t) (fun _ _=>⟨rfl,rfl⟩) (fun z=>by(intro h;cases h)) (fun _ _=>rfl) (fun x=>by kernel_rfl)
theorem vl2:vad Try.prog 34 ve2:=
 va0 G59_ok follows (Try.f34.body.getD .skip) Try.func34 (by kernel_rfl) fun p q=>⟨vua,(n37n_p _ _).p.map _,by rw [wav];kernel_rfl,vab (ids:=[0]) (by kernel_rfl) (by kernel_rfl) ⟨wb5,trivial⟩⟩
def G60:Glob:=G59.add 34 ve2
theorem G60_ok:GlobOk Try.prog G60:=G59_ok.add ⟨Try.f34,Try.func34,by kernel_rfl,by kernel_rfl⟩ vl2
def v1h:(Int×Int×(List vam))→List AV:=fun x=>[.own 0,.i x.1,.i x.2.1]
def v0i:(Int×Int×(List vam))→St:=fun x=>[.arr tRange x.2.2]
def vvh:Nat→Option LoopSpec
 |0=>some (lpS [0,1,5] [] [.own 0,.i,.i] [.arr tRange] vlm (fun p q=>(p.2.1,p.2.2.1,q.1)) (fun k=>(onE (exZ (.exit 0) v1h v0i) k)))
 |_=>none
theorem wb9:LpAt G60 ⟨1,29,vvh⟩ Try.f45 0:=
 vau rfl (fun x=>(n34n_bp0 x).p) v1h v0i (exZ (.exit 0) v1h v0i) (fun _ _=>⟨rfl,rfl⟩) (fun z=>by(intro h;cases h)) (fun _ _=>rfl) (fun x=>by kernel_rfl)
theorem vnx:vad Try.prog 45 vg1:=
 va0 G60_ok follows (Try.f45.body.getD .skip) Try.func45 (by kernel_rfl) fun p q=>⟨vvh,(n34n_p _ _).p.map _,by rw [wbl];kernel_rfl,vab (ids:=[0]) (by kernel_rfl) (by kernel_rfl) ⟨wb9,trivial⟩⟩
def G61:Glob:=G60.add 45 vg1
theorem G61_ok:GlobOk Try.prog G61:=G60_ok.add ⟨Try.f45,Try.func45,by kernel_rfl,by kernel_rfl⟩ vnx
def v1a:(Int×Int×(List val))→List AV:=fun x=>[.own 0,.i x.1,.i x.2.1]
def v14:(Int×Int×(List val))→St:=fun x=>[.arr tWrite x.2.2]
def vv2:Nat→Option LoopSpec
 |0=>some (lpS [0,1,5] [] [.own 0,.i,.i] [.arr tWrite] vl0 (fun p q=>(p.2.1,p.2.2.1,q.1)) (fun k=>(onE (exZ (.exit 0) v1a v14) k)))
 |_=>none
theorem wei:LpAt G61 ⟨1,38,vv2⟩ Try.f46 0:=
 vau rfl (fun x=>(n38n_bp0 x).p) v1a v14 (exZ (.exit 0) v1a v14) (fun _ _=>⟨rfl,rfl⟩) (fun z=>by(intro h;cases h)) (fun _ _=>rfl) (fun x=>by kernel_rfl)
theorem vny:vad Try.prog 46 vgt:=
 va0 G61_ok follows (Try.f46.body.getD .skip) Try.func46 (by kernel_rfl) fun p q=>⟨vv2,(n38n_p _ _).p.map _,by rw [v8t];kernel_rfl,vab (ids:=[0]) (by kernel_rfl) (by kernel_rfl) ⟨wei,trivial⟩⟩
def G62:Glob:=G61.add 46 vgt
theorem G62_ok:GlobOk Try.prog G62:=G61_ok.add ⟨Try.f46,Try.func46,by kernel_rfl,by kernel_rfl⟩ vny
def vgg:(Int×Int×(List dTxn))→List AV:=fun x=>[.own 0,.i x.1,.i x.2.1]
def vgn:(Int×Int×(List dTxn))→St:=fun x=>[.dep tTxn x.2.2 0 []]
def vgh:(Int×Int×(List dTxn))→List AV:=fun x=>[.own 0,.i x.1,.i x.2.1]
def vgo:(Int×Int×(List dTxn))→St:=fun x=>[.dep tTxn x.2.2 0 []]
def vgl:(Int×Int×(List dTxn))→List AV:=fun x=>[.own 0,.i x.1,.i x.2.1]
def vft:(Int×Int×(List dTxn))→St:=fun x=>[.dep tTxn x.2.2 0 []]
def vf9:(Int×Int×(List dTxn))→List AV:=fun x=>[.own 0,.i x.1,.i x.2.1]
def vfy:(Int×Int×(List dTxn))→St:=fun x=>[.dep tTxn x.2.2 0 []]
def vgd:(Int×Int×(List dTxn))→List AV:=fun x=>[.own 0,.i x.1,.i x.2.1]
def vga:(Int×Int×(List dTxn))→St:=fun x=>[.dep tTxn x.2.2 0 []]
def vf3:(Int×Int×(List dTxn))→List AV:=fun x=>[.own 0,.i x.1,.i x.2.1]
def vfx:(Int×Int×(List dTxn))→St:=fun x=>[.dep tTxn x.2.2 0 []]
def vf5:(Int×Int×(List dTxn))→List AV:=fun x=>[.own 0,.i x.1,.i x.2.1]
def vfv:(Int×Int×(List dTxn))→St:=fun x=>[.dep tTxn x.2.2 0 []]
def v1l:(Int×Int×(List dTxn))→List AV:=fun x=>[.own 0,.i x.1,.i x.2.1]
def v0s:(Int×Int×(List dTxn))→St:=fun x=>[.dep tTxn x.2.2 0 []]
def vcr:Nat→Option LoopSpec
 |5000003=>some (ctS [0,1,5] [] [.own 0,.i,.i] [.dep tTxn 0] vdg (fun p q=>(p.2.1,p.2.2.1,q.1)) (fun k=>(onE (exZ .norm vgg vgn) k)))
 |5000017=>some (ctS [0,1,5] [] [.own 0,.i,.i] [.dep tTxn 0] vdh (fun p q=>(p.2.1,p.2.2.1,q.1)) (fun k=>(onE (exZ .norm vgh vgo) k)))
 |5000015=>some (ctS [0,1,5] [] [.own 0,.i,.i] [.dep tTxn 0] vdo (fun p q=>(p.2.1,p.2.2.1,q.1)) (fun k=>(onE (exZ .norm vgl vft) k)))
 |5000011=>some (ctS [0,1,5] [] [.own 0,.i,.i] [.dep tTxn 0] vdl (fun p q=>(p.2.1,p.2.2.1,q.1)) (fun k=>(onE (exZ .norm vf9 vfy) k)))
 |5000009=>some (ctS [0,1,5] [] [.own 0,.i,.i] [.dep tTxn 0] vdi (fun p q=>(p.2.1,p.2.2.1,q.1)) (fun k=>(onE (exZ .norm vgd vga) k)))
 |5000007=>some (ctS [0,1,5] [] [.own 0,.i,.i] [.dep tTxn 0] vde (fun p q=>(p.2.1,p.2.2.1,q.1)) (fun k=>(onE (exZ .norm vf3 vfx) k)))
 |5000005=>some (ctS [0,1,5] [] [.own 0,.i,.i] [.dep tTxn 0] vdk (fun p q=>(p.2.1,p.2.2.1,q.1)) (fun k=>(onE (exZ .norm vf5 vfv) k)))
 |0=>some (lpS [0,1,5] [] [.own 0,.i,.i] [.dep tTxn 0] vj6 (fun p q=>(p.2.1,p.2.2.1,q.1)) (fun k=>(onE (exZ (.exit 0) v1l v0s) k)))
 |_=>none
theorem vtc:CtAt G62 ⟨1,72,vcr⟩ Try.f18 5000003:=
 vin rfl (fun x=>(n36n_jp5000003 x).p) vgg vgn (exZ .norm vgg vgn) (fun _ _=>⟨rfl,rfl⟩) (fun _ _=>rfl) (fun x=>by kernel_rfl)
theorem vs0:CtAt G62 ⟨1,72,vcr⟩ Try.f18 5000017:=
 vin rfl (fun x=>(n36n_jp5000017 x).p) vgh vgo (exZ .norm vgh vgo) (fun _ _=>⟨rfl,rfl⟩) (fun _ _=>rfl) (fun x=>by kernel_rfl)
theorem vs7:CtAt G62 ⟨1,72,vcr⟩ Try.f18 5000015:=
 vin rfl (fun x=>(n36n_jp5000015 x).p) vgl vft (exZ .norm vgl vft) (fun _ _=>⟨rfl,rfl⟩) (fun _ _=>rfl) (fun x=>by kernel_rfl)
theorem vtd:CtAt G62 ⟨1,72,vcr⟩ Try.f18 5000011:=
 vin rfl (fun x=>(n36n_jp5000011 x).p) vf9 vfy (exZ .norm vf9 vfy) (fun _ _=>⟨rfl,rfl⟩) (fun _ _=>rfl) (fun x=>by kernel_rfl)
theorem vsx:CtAt G62 ⟨1,72,vcr⟩ Try.f18 5000009:=
 vin rfl (fun x=>(n36n_jp5000009 x).p) vgd vga (exZ .norm vgd vga) (fun _ _=>⟨rfl,rfl⟩) (fun _ _=>rfl) (fun x=>by kernel_rfl)
theorem vs6:CtAt G62 ⟨1,72,vcr⟩ Try.f18 5000007:=
 vin rfl (fun x=>(n36n_jp5000007 x).p) vf3 vfx (exZ .norm vf3 vfx) (fun _ _=>⟨rfl,rfl⟩) (fun _ _=>rfl) (fun x=>by kernel_rfl)
theorem vs5:CtAt G62 ⟨1,72,vcr⟩ Try.f18 5000005:=
 vin rfl (fun x=>(n36n_jp5000005 x).p) vf5 vfv (exZ .norm vf5 vfv) (fun _ _=>⟨rfl,rfl⟩) (fun _ _=>rfl) (fun x=>by kernel_rfl)
theorem wfj:LpAt G62 ⟨1,72,vcr⟩ Try.f18 0:=
 vau rfl (fun x=>(n36n_bp0 x).p) v1l v0s (exZ (.exit 0) v1l v0s) (fun _ _=>⟨rfl,rfl⟩) (fun z=>by(intro h;cases h)) (fun _ _=>rfl) (fun x=>by kernel_rfl)
theorem vqo:vad Try.prog 18 vkb:=
 va0 G62_ok follows (Try.f18.body.getD .skip) Try.func18 (by kernel_rfl) fun p q=>⟨vcr,(n36n_p _ _).p.map _,by rw [wak];kernel_rfl,vab (ids:=[5000003,5000017,5000015,5000011,5000009,5000007,5000005,0]) (by kernel_rfl) (by kernel_rfl) ⟨vtc,⟨vs0,⟨vs7,⟨vtd,⟨vsx,⟨vs6,⟨vs5,⟨wfj,trivial⟩⟩⟩⟩⟩⟩⟩⟩⟩
def G63:Glob:=G62.add 18 vkb
theorem G63_ok:GlobOk Try.prog G63:=G62_ok.add ⟨Try.f18,Try.func18,by kernel_rfl,by kernel_rfl⟩ vqo
def v5u:Nat→Option LoopSpec
 |_=>none
theorem vrn:vad Try.prog 11 vjh:=
 va0 G63_ok follows (Try.f11.body.getD .skip) Try.func11 (by kernel_rfl) fun p q=>⟨v5u,(n32n_p _ _ _ _ _ _).p.map _,by rw [v7v];kernel_rfl,vab (ids:=[]) (by kernel_rfl) (by kernel_rfl) trivial⟩
def G64:Glob:=G63.add 11 vjh
theorem G64_ok:GlobOk Try.prog G64:=G63_ok.add ⟨Try.f11,Try.func11,by kernel_rfl,by kernel_rfl⟩ vrn
def v7c:Nat→Option LoopSpec
 |_=>none
theorem vnt:vad Try.prog 24 vg5:=
 va0 G64_ok follows (Try.f24.body.getD .skip) Try.func24 (by kernel_rfl) fun p q=>⟨v7c,(n33n_p _ _ _ _ _ _ _).p.map _,by rw [v89];kernel_rfl,vab (ids:=[]) (by kernel_rfl) (by kernel_rfl) trivial⟩
def G65:Glob:=G64.add 24 vg5
theorem G65_ok:GlobOk Try.prog G65:=G64_ok.add ⟨Try.f24,Try.func24,by kernel_rfl,by kernel_rfl⟩ vnt
def vre:q16T→List AV:=fun x=>[.lst tVersion x.1,.i x.2.1,.i x.2.2.1,.i x.2.2.2]
def vpm:q16T→St:=fun x=>[]
def vtu:Nat→Option LoopSpec
 |0=>some (lpS [0,1,4,5] [] [.lst tVersion,.i,.i,.i] [] vjm (fun p q=>(p.1,p.2.1,p.2.2.1,p.2.2.2.1)) (fun k=>(Sum.elim (onE (exZ .ret vre vpm) k) (onE (exZ (.exit 0) vre vpm) k))))
 |2000004=>some ⟨[0,2,4,6,8,10,13,14],[],fun _ _ _=>none⟩
 |2000007=>some ⟨[0,2,4,6,8,10,13,14],[],fun _ _ _=>none⟩
 |_=>none
theorem wd6:LpAt G65 ⟨0,53,vtu⟩ Try.f35 0:=
 vau rfl (fun x=>(n30n_bp0 x).p) vre vpm (Sum.elim ((exZ .ret vre vpm)) ((exZ (.exit 0) vre vpm))) (fun _ _=>⟨rfl,rfl⟩) (fun z=>by rcases z with z|z<;>(intro h;cases h)) (fun k z=>by rcases z with z|z<;>rfl) (fun x=>by kernel_rfl)
theorem wju:vad Try.prog 35 wgf:=
 va0 G65_ok follows (Try.f35.body.getD .skip) Try.func35 (by kernel_rfl) fun p q=>⟨vtu,(n30n_p _ _).p.map _,by rw [v7l];kernel_rfl,vab (ids:=[0]) (by kernel_rfl) (by kernel_rfl) ⟨wd6,trivial⟩⟩
def G66:Glob:=G65.add 35 wgf
theorem G66_ok:GlobOk Try.prog G66:=G65_ok.add ⟨Try.f35,Try.func35,by kernel_rfl,by kernel_rfl⟩ wju
def vqr:q2T→List AV:=fun x=>[.lst tRange x.1,.i x.2.1,.i x.2.2.1,.i x.2.2.2]
def vr2:q2T→St:=fun x=>[]
def vul:Nat→Option LoopSpec
 |0=>some (lpS [0,1,4,5] [] [.lst tRange,.i,.i,.i] [] vjz (fun p q=>(p.1,p.2.1,p.2.2.1,p.2.2.2.1)) (fun k=>(Sum.elim (onE (exZ .ret vqr vr2) k) (onE (exZ (.exit 0) vqr vr2) k))))
 |2000004=>some ⟨[0,2,4,6,8,10,13,14],[],fun _ _ _=>none⟩
 |2000007=>some ⟨[0,2,4,6,8,10,13,14],[],fun _ _ _=>none⟩
 |_=>none
theorem wcp:LpAt G66 ⟨0,33,vul⟩ Try.f59 0:=
 vau rfl (fun x=>(n28n_bp0 x).p) vqr vr2 (Sum.elim ((exZ .ret vqr vr2)) ((exZ (.exit 0) vqr vr2))) (fun _ _=>⟨rfl,rfl⟩) (fun z=>by rcases z with z|z<;>(intro h;cases h)) (fun k z=>by rcases z with z|z<;>rfl) (fun x=>by kernel_rfl)
theorem wmb:vad Try.prog 59 whh:=
 va0 G66_ok follows (Try.f59.body.getD .skip) Try.func59 (by kernel_rfl) fun p q=>⟨vul,(n28n_p _ _).p.map _,by rw [wbt];kernel_rfl,vab (ids:=[0]) (by kernel_rfl) (by kernel_rfl) ⟨wcp,trivial⟩⟩
def G67:Glob:=G66.add 59 whh
theorem G67_ok:GlobOk Try.prog G67:=G66_ok.add ⟨Try.f59,Try.func59,by kernel_rfl,by kernel_rfl⟩ wmb
def vq4:q19T→List AV:=fun x=>[.lst tWrite x.1,.i x.2.1,.i x.2.2.1,.i x.2.2.2]
def vq2:q19T→St:=fun x=>[]
def vtj:Nat→Option LoopSpec
 |0=>some (lpS [0,1,4,5] [] [.lst tWrite,.i,.i,.i] [] vka (fun p q=>(p.1,p.2.1,p.2.2.1,p.2.2.2.1)) (fun k=>(Sum.elim (onE (exZ .ret vq4 vq2) k) (onE (exZ (.exit 0) vq4 vq2) k))))
 |2000004=>some ⟨[0,2,4,6,8,10,13,14],[],fun _ _ _=>none⟩
 |2000007=>some ⟨[0,2,4,6,8,10,13,14],[],fun _ _ _=>none⟩
 |_=>none
theorem wco:LpAt G67 ⟨0,44,vtj⟩ Try.f60 0:=
 vau rfl (fun x=>(n31n_bp0 x).p) vq4 vq2 (Sum.elim ((exZ .ret vq4 vq2)) ((exZ (.exit 0) vq4 vq2))) (fun _ _=>⟨rfl,rfl⟩) (fun z=>by rcases z with z|z<;>(intro h;cases h)) (fun k z=>by rcases z with z|z<;>rfl) (fun x=>by kernel_rfl)
theorem wkl:vad Try.prog 60 whm:=
 va0 G67_ok follows (Try.f60.body.getD .skip) Try.func60 (by kernel_rfl) fun p q=>⟨vtj,(n31n_p _ _).p.map _,by rw [v81];kernel_rfl,vab (ids:=[0]) (by kernel_rfl) (by kernel_rfl) ⟨wco,trivial⟩⟩
def G68:Glob:=G67.add 60 whm
theorem G68_ok:GlobOk Try.prog G68:=G67_ok.add ⟨Try.f60,Try.func60,by kernel_rfl,by kernel_rfl⟩ wkl
def vpn:q7T→List AV:=fun x=>[.lst tTxn x.1,.i x.2.1,.i x.2.2.1,.i x.2.2.2]
def vpj:q7T→St:=fun x=>[]
def vt2:Nat→Option LoopSpec
 |0=>some (lpS [0,1,4,5] [] [.lst tTxn,.i,.i,.i] [] vim (fun p q=>(p.1,p.2.1,p.2.2.1,p.2.2.2.1)) (fun k=>(Sum.elim (onE (exZ .ret vpn vpj) k) (onE (exZ (.exit 0) vpn vpj) k))))
 |2000025=>some ⟨[0,2,4,6,8,10,13,14],[],fun _ _ _=>none⟩
 |_=>none
theorem we8:LpAt G68 ⟨0,88,vt2⟩ Try.f36 0:=
 vau rfl (fun x=>(n29n_bp0 x).p) vpn vpj (Sum.elim ((exZ .ret vpn vpj)) ((exZ (.exit 0) vpn vpj))) (fun _ _=>⟨rfl,rfl⟩) (fun z=>by rcases z with z|z<;>(intro h;cases h)) (fun k z=>by rcases z with z|z<;>rfl) (fun x=>by kernel_rfl)
theorem wlb:vad Try.prog 36 wh4:=
 va0 G68_ok follows (Try.f36.body.getD .skip) Try.func36 (by kernel_rfl) fun p q=>⟨vt2,(n29n_p _ _).p.map _,by rw [v8e];kernel_rfl,vab (ids:=[0]) (by kernel_rfl) (by kernel_rfl) ⟨we8,trivial⟩⟩
def G69:Glob:=G68.add 36 wh4
theorem G69_ok:GlobOk Try.prog G69:=G68_ok.add ⟨Try.f36,Try.func36,by kernel_rfl,by kernel_rfl⟩ wlb
def v5s:Nat→Option LoopSpec
 |_=>none
theorem wjx:vad Try.prog 12 wg3:=
 va0 G69_ok follows (Try.f12.body.getD .skip) Try.func12 (by kernel_rfl) fun p q=>⟨v5s,(n26n_p _ _).p.map _,by rw [v8n];kernel_rfl,vab (ids:=[]) (by kernel_rfl) (by kernel_rfl) trivial⟩
def G70:Glob:=G69.add 12 wg3
theorem G70_ok:GlobOk Try.prog G70:=G69_ok.add ⟨Try.f12,Try.func12,by kernel_rfl,by kernel_rfl⟩ wjx
def v68:Nat→Option LoopSpec
 |_=>none
theorem wk5:vad Try.prog 25 whp:=
 va0 G70_ok follows (Try.f25.body.getD .skip) Try.func25 (by kernel_rfl) fun p q=>⟨v68,(n27n_p _ _).p.map _,by rw [v95];kernel_rfl,vab (ids:=[]) (by kernel_rfl) (by kernel_rfl) trivial⟩
def G71:Glob:=G70.add 25 whp
theorem G71_ok:GlobOk Try.prog G71:=G70_ok.add ⟨Try.f25,Try.func25,by kernel_rfl,by kernel_rfl⟩ wk5
def vgb:q21T→List AV:=fun x=>[.bool x.1,.bp 0 0,.i x.2.1]
def vgq:q21T→St:=fun x=>[.box [.own 1,.own 2,.own 3,.i x.2.2.1,.i x.2.2.2.1,.own 4],.arr tVersion x.2.2.2.2.1,.dep tTxn x.2.2.2.2.2.1 0 [],.dep tTxn x.2.2.2.2.2.2.1 0 [],.dep tTxn x.2.2.2.2.2.2.2 0 []]
def vce:Nat→Option LoopSpec
 |5000027=>some (ctS [4,9,12] [] [.bool,.bp 0 0,.i] [.box [.own 1,.own 2,.own 3,.i,.i,.own 4],.arr tVersion,.dep tTxn 0,.dep tTxn 0,.dep tTxn 0] vb9 (fun p q=>(p.1,p.2.2.1,q.1.2.2.2.1,q.1.2.2.2.2.1,q.2.1,q.2.2.1,q.2.2.2.1,q.2.2.2.2.1)) (fun k=>(onE (exZ .ret vgb vgq) k)))
 |5000016=>some ⟨[1,2,4,6,7,9],[],fun vals st k=>vaf [.i,.bp 0 0,.bool,.bp 1 0,.i,.bp 2 0] [.box [.lst tVersion,.lst tTxn,.lst tTxn,.i,.i,.lst tTxn],.box [.own 3,.own 4,.own 5,.i,.i,.own 6],.box [.own 7,.own 8,.own 9,.i,.i,.own 10],.arr tVersion,.arr tTxn,.arr tTxn,.arr tTxn,.arr tVersion,.dep tTxn 0,.dep tTxn 0,.dep tTxn 0] vals st (fun p q=>vbr (.inl (p.1,p.2.2.1,p.2.2.2.2.1,q.1.1,q.1.2.1,q.1.2.2.1,q.1.2.2.2.1,q.1.2.2.2.2.1,q.1.2.2.2.2.2.1,q.2.1.2.2.2.1,q.2.1.2.2.2.2.1,q.2.2.1.2.2.2.1,q.2.2.1.2.2.2.2.1,q.2.2.2.1,q.2.2.2.2.1,q.2.2.2.2.2.1,q.2.2.2.2.2.2.1,q.2.2.2.2.2.2.2.1,q.2.2.2.2.2.2.2.2.1,q.2.2.2.2.2.2.2.2.2.1,q.2.2.2.2.2.2.2.2.2.2.1)) (Sum.elim (fun z=>k .ret [.i z.1,.bp 0 0,.bool z.2.1,.bp 1 0,.i z.2.2.1,.bp 2 0] [.box [.lst tVersion z.2.2.2.1,.lst tTxn z.2.2.2.2.1,.lst tTxn z.2.2.2.2.2.1,.i z.2.2.2.2.2.2.1,.i z.2.2.2.2.2.2.2.1,.lst tTxn z.2.2.2.2.2.2.2.2.1],.box [.own 3,.own 4,.own 5,.i z.2.2.2.2.2.2.2.2.2.1,.i z.2.2.2.2.2.2.2.2.2.2.1,.own 6],.box [.own 7,.own 8,.own 9,.i z.2.2.2.2.2.2.2.2.2.2.2.1,.i z.2.2.2.2.2.2.2.2.2.2.2.2.1,.own 10],.arr tVersion z.2.2.2.2.2.2.2.2.2.2.2.2.2.1,.arr tTxn z.2.2.2.2.2.2.2.2.2.2.2.2.2.2.1,.arr tTxn z.2.2.2.2.2.2.2.2.2.2.2.2.2.2.2.1,.arr tTxn z.2.2.2.2.2.2.2.2.2.2.2.2.2.2.2.2.1,.arr tVersion z.2.2.2.2.2.2.2.2.2.2.2.2.2.2.2.2.2.1,.dep tTxn z.2.2.2.2.2.2.2.2.2.2.2.2.2.2.2.2.2.2.1 0 [],.dep tTxn z.2.2.2.2.2.2.2.2.2.2.2.2.2.2.2.2.2.2.2.1 0 [],.dep tTxn z.2.2.2.2.2.2.2.2.2.2.2.2.2.2.2.2.2.2.2.2 0 []]) (Sum.elim (fun z=>k .ret [.i z.1,.bp 0 0,.bool z.2.1,.bp 1 0,.i z.2.2.1,.bp 2 0] [.box [.lst tVersion z.2.2.2.1,.lst tTxn z.2.2.2.2.1,.lst tTxn z.2.2.2.2.2.1,.i z.2.2.2.2.2.2.1,.i z.2.2.2.2.2.2.2.1,.lst tTxn z.2.2.2.2.2.2.2.2.1],.box [.own 3,.own 4,.own 5,.i z.2.2.2.2.2.2.2.2.2.1,.i z.2.2.2.2.2.2.2.2.2.2.1,.lst tTxn z.2.2.2.2.2.2.2.2.2.2.2.1],.box [.own 6,.own 7,.own 8,.i z.2.2.2.2.2.2.2.2.2.2.2.2.1,.i z.2.2.2.2.2.2.2.2.2.2.2.2.2.1,.own 9],.arr tVersion z.2.2.2.2.2.2.2.2.2.2.2.2.2.2.1,.arr tTxn z.2.2.2.2.2.2.2.2.2.2.2.2.2.2.2.1,.arr tTxn z.2.2.2.2.2.2.2.2.2.2.2.2.2.2.2.2.1,.arr tVersion z.2.2.2.2.2.2.2.2.2.2.2.2.2.2.2.2.2.1,.dep tTxn z.2.2.2.2.2.2.2.2.2.2.2.2.2.2.2.2.2.2.1 0 [],.dep tTxn z.2.2.2.2.2.2.2.2.2.2.2.2.2.2.2.2.2.2.2.1 0 [],.dep tTxn z.2.2.2.2.2.2.2.2.2.2.2.2.2.2.2.2.2.2.2.2 0 []]) (fun z=>k .ret [.dead,.dead,.bool z.1,.dead,.dead,.bp 0 0] [.box [.own 1,.own 2,.own 3,.i z.2.1,.i z.2.2.1,.own 4],.arr tVersion z.2.2.2.1,.dep tTxn z.2.2.2.2.1 0 [],.dep tTxn z.2.2.2.2.2.1 0 [],.dep tTxn z.2.2.2.2.2.2 0 []]))))
   (vaf [.i,.bp 0 0,.bool,.bp 1 0,.i,.bp 2 0] [.box [.lst tVersion,.lst tTxn,.lst tTxn,.i,.i,.lst tTxn],.box [.own 3,.own 4,.own 5,.i,.i,.lst tTxn],.box [.own 6,.own 7,.own 8,.i,.i,.own 9],.arr tVersion,.arr tTxn,.arr tTxn,.arr tVersion,.dep tTxn 0,.dep tTxn 0,.dep tTxn 0] vals st (fun p q=>vbr (.inr (p.1,p.2.2.1,p.2.2.2.2.1,q.1.1,q.1.2.1,q.1.2.2.1,q.1.2.2.2.1,q.1.2.2.2.2.1,q.1.2.2.2.2.2.1,q.2.1.2.2.2.1,q.2.1.2.2.2.2.1,q.2.1.2.2.2.2.2.1,q.2.2.1.2.2.2.1,q.2.2.1.2.2.2.2.1,q.2.2.2.1,q.2.2.2.2.1,q.2.2.2.2.2.1,q.2.2.2.2.2.2.1,q.2.2.2.2.2.2.2.1,q.2.2.2.2.2.2.2.2.1,q.2.2.2.2.2.2.2.2.2.1)) (Sum.elim (fun z=>k .ret [.i z.1,.bp 0 0,.bool z.2.1,.bp 1 0,.i z.2.2.1,.bp 2 0] [.box [.lst tVersion z.2.2.2.1,.lst tTxn z.2.2.2.2.1,.lst tTxn z.2.2.2.2.2.1,.i z.2.2.2.2.2.2.1,.i z.2.2.2.2.2.2.2.1,.lst tTxn z.2.2.2.2.2.2.2.2.1],.box [.own 3,.own 4,.own 5,.i z.2.2.2.2.2.2.2.2.2.1,.i z.2.2.2.2.2.2.2.2.2.2.1,.own 6],.box [.own 7,.own 8,.own 9,.i z.2.2.2.2.2.2.2.2.2.2.2.1,.i z.2.2.2.2.2.2.2.2.2.2.2.2.1,.own 10],.arr tVersion z.2.2.2.2.2.2.2.2.2.2.2.2.2.1,.arr tTxn z.2.2.2.2.2.2.2.2.2.2.2.2.2.2.1,.arr tTxn z.2.2.2.2.2.2.2.2.2.2.2.2.2.2.2.1,.arr tTxn z.2.2.2.2.2.2.2.2.2.2.2.2.2.2.2.2.1,.arr tVersion z.2.2.2.2.2.2.2.2.2.2.2.2.2.2.2.2.2.1,.dep tTxn z.2.2.2.2.2.2.2.2.2.2.2.2.2.2.2.2.2.2.1 0 [],.dep tTxn z.2.2.2.2.2.2.2.2.2.2.2.2.2.2.2.2.2.2.2.1 0 [],.dep tTxn z.2.2.2.2.2.2.2.2.2.2.2.2.2.2.2.2.2.2.2.2 0 []]) (Sum.elim (fun z=>k .ret [.i z.1,.bp 0 0,.bool z.2.1,.bp 1 0,.i z.2.2.1,.bp 2 0] [.box [.lst tVersion z.2.2.2.1,.lst tTxn z.2.2.2.2.1,.lst tTxn z.2.2.2.2.2.1,.i z.2.2.2.2.2.2.1,.i z.2.2.2.2.2.2.2.1,.lst tTxn z.2.2.2.2.2.2.2.2.1],.box [.own 3,.own 4,.own 5,.i z.2.2.2.2.2.2.2.2.2.1,.i z.2.2.2.2.2.2.2.2.2.2.1,.lst tTxn z.2.2.2.2.2.2.2.2.2.2.2.1],.box [.own 6,.own 7,.own 8,.i z.2.2.2.2.2.2.2.2.2.2.2.2.1,.i z.2.2.2.2.2.2.2.2.2.2.2.2.2.1,.own 9],.arr tVersion z.2.2.2.2.2.2.2.2.2.2.2.2.2.2.1,.arr tTxn z.2.2.2.2.2.2.2.2.2.2.2.2.2.2.2.1,.arr tTxn z.2.2.2.2.2.2.2.2.2.2.2.2.2.2.2.2.1,.arr tVersion z.2.2.2.2.2.2.2.2.2.2.2.2.2.2.2.2.2.1,.dep tTxn z.2.2.2.2.2.2.2.2.2.2.2.2.2.2.2.2.2.2.1 0 [],.dep tTxn z.2.2.2.2.2.2.2.2.2.2.2.2.2.2.2.2.2.2.2.1 0 [],.dep tTxn z.2.2.2.2.2.2.2.2.2.2.2.2.2.2.2.2.2.2.2.2 0 []]) (fun z=>k .ret [.dead,.dead,.bool z.1,.dead,.dead,.bp 0 0] [.box [.own 1,.own 2,.own 3,.i z.2.1,.i z.2.2.1,.own 4],.arr tVersion z.2.2.2.1,.dep tTxn z.2.2.2.2.1 0 [],.dep tTxn z.2.2.2.2.2.1 0 [],.dep tTxn z.2.2.2.2.2.2 0 []]))))
   (none))⟩
 |5000010=>some ⟨[1,2,4,6,7,8,9,10],[],fun vals st k=>vaf [.i,.bp 0 0,.bool,.bp 1 0,.i,.bp 2 0,.bp 3 0,.i] [.box [.lst tVersion,.lst tTxn,.lst tTxn,.i,.i,.lst tTxn],.box [.own 4,.own 5,.own 6,.i,.i,.own 7],.box [.own 8,.own 9,.own 10,.i,.i,.own 11],.box [.own 12,.own 13,.own 14,.i,.i,.own 15],.arr tVersion,.arr tTxn,.arr tTxn,.arr tTxn,.arr tVersion,.dep tTxn 0,.dep tTxn 0,.dep tTxn 0,.arr tVersion,.dep tTxn 0,.dep tTxn 0,.dep tTxn 0] vals st (fun p q=>vbf (.inl (p.1,p.2.2.1,p.2.2.2.2.1,p.2.2.2.2.2.2.2.1,q.1.1,q.1.2.1,q.1.2.2.1,q.1.2.2.2.1,q.1.2.2.2.2.1,q.1.2.2.2.2.2.1,q.2.1.2.2.2.1,q.2.1.2.2.2.2.1,q.2.2.1.2.2.2.1,q.2.2.1.2.2.2.2.1,q.2.2.2.1.2.2.2.1,q.2.2.2.1.2.2.2.2.1,q.2.2.2.2.1,q.2.2.2.2.2.1,q.2.2.2.2.2.2.1,q.2.2.2.2.2.2.2.1,q.2.2.2.2.2.2.2.2.1,q.2.2.2.2.2.2.2.2.2.1,q.2.2.2.2.2.2.2.2.2.2.1,q.2.2.2.2.2.2.2.2.2.2.2.1,q.2.2.2.2.2.2.2.2.2.2.2.2.1,q.2.2.2.2.2.2.2.2.2.2.2.2.2.1,q.2.2.2.2.2.2.2.2.2.2.2.2.2.2.1,q.2.2.2.2.2.2.2.2.2.2.2.2.2.2.2.1)) (Sum.elim (fun z=>k .ret [.i z.1,.bp 0 0,.bool z.2.1,.bp 1 0,.i z.2.2.1,.bp 2 0,.bp 3 0,.i z.2.2.2.1] [.box [.lst tVersion z.2.2.2.2.1,.lst tTxn z.2.2.2.2.2.1,.lst tTxn z.2.2.2.2.2.2.1,.i z.2.2.2.2.2.2.2.1,.i z.2.2.2.2.2.2.2.2.1,.lst tTxn z.2.2.2.2.2.2.2.2.2.1],.box [.own 4,.own 5,.own 6,.i z.2.2.2.2.2.2.2.2.2.2.1,.i z.2.2.2.2.2.2.2.2.2.2.2.1,.own 7],.box [.own 8,.own 9,.own 10,.i z.2.2.2.2.2.2.2.2.2.2.2.2.1,.i z.2.2.2.2.2.2.2.2.2.2.2.2.2.1,.own 11],.box [.own 12,.own 13,.own 14,.i z.2.2.2.2.2.2.2.2.2.2.2.2.2.2.1,.i z.2.2.2.2.2.2.2.2.2.2.2.2.2.2.2.1,.own 15],.arr tVersion z.2.2.2.2.2.2.2.2.2.2.2.2.2.2.2.2.1,.arr tTxn z.2.2.2.2.2.2.2.2.2.2.2.2.2.2.2.2.2.1,.arr tTxn z.2.2.2.2.2.2.2.2.2.2.2.2.2.2.2.2.2.2.1,.arr tTxn z.2.2.2.2.2.2.2.2.2.2.2.2.2.2.2.2.2.2.2.1,.arr tVersion z.2.2.2.2.2.2.2.2.2.2.2.2.2.2.2.2.2.2.2.2.1,.dep tTxn z.2.2.2.2.2.2.2.2.2.2.2.2.2.2.2.2.2.2.2.2.2.1 0 [],.dep tTxn z.2.2.2.2.2.2.2.2.2.2.2.2.2.2.2.2.2.2.2.2.2.2.1 0 [],.dep tTxn z.2.2.2.2.2.2.2.2.2.2.2.2.2.2.2.2.2.2.2.2.2.2.2.1 0 [],.arr tVersion z.2.2.2.2.2.2.2.2.2.2.2.2.2.2.2.2.2.2.2.2.2.2.2.2.1,.dep tTxn z.2.2.2.2.2.2.2.2.2.2.2.2.2.2.2.2.2.2.2.2.2.2.2.2.2.1 0 [],.dep tTxn z.2.2.2.2.2.2.2.2.2.2.2.2.2.2.2.2.2.2.2.2.2.2.2.2.2.2.1 0 [],.dep tTxn z.2.2.2.2.2.2.2.2.2.2.2.2.2.2.2.2.2.2.2.2.2.2.2.2.2.2.2 0 []]) (Sum.elim (fun z=>k .ret [.i z.1,.bp 0 0,.bool z.2.1,.bp 1 0,.i z.2.2.1,.bp 2 0,.bp 3 0,.i z.2.2.2.1] [.box [.lst tVersion z.2.2.2.2.1,.lst tTxn z.2.2.2.2.2.1,.lst tTxn z.2.2.2.2.2.2.1,.i z.2.2.2.2.2.2.2.1,.i z.2.2.2.2.2.2.2.2.1,.lst tTxn z.2.2.2.2.2.2.2.2.2.1],.box [.own 4,.own 5,.own 6,.i z.2.2.2.2.2.2.2.2.2.2.1,.i z.2.2.2.2.2.2.2.2.2.2.2.1,.lst tTxn z.2.2.2.2.2.2.2.2.2.2.2.2.1],.box [.own 7,.own 8,.own 9,.i z.2.2.2.2.2.2.2.2.2.2.2.2.2.1,.i z.2.2.2.2.2.2.2.2.2.2.2.2.2.2.1,.own 10],.box [.own 11,.own 12,.own 13,.i z.2.2.2.2.2.2.2.2.2.2.2.2.2.2.2.1,.i z.2.2.2.2.2.2.2.2.2.2.2.2.2.2.2.2.1,.own 14],.arr tVersion z.2.2.2.2.2.2.2.2.2.2.2.2.2.2.2.2.2.1,.arr tTxn z.2.2.2.2.2.2.2.2.2.2.2.2.2.2.2.2.2.2.1,.arr tTxn z.2.2.2.2.2.2.2.2.2.2.2.2.2.2.2.2.2.2.2.1,.arr tVersion z.2.2.2.2.2.2.2.2.2.2.2.2.2.2.2.2.2.2.2.2.1,.dep tTxn z.2.2.2.2.2.2.2.2.2.2.2.2.2.2.2.2.2.2.2.2.2.1 0 [],.dep tTxn z.2.2.2.2.2.2.2.2.2.2.2.2.2.2.2.2.2.2.2.2.2.2.1 0 [],.dep tTxn z.2.2.2.2.2.2.2.2.2.2.2.2.2.2.2.2.2.2.2.2.2.2.2.1 0 [],.arr tVersion z.2.2.2.2.2.2.2.2.2.2.2.2.2.2.2.2.2.2.2.2.2.2.2.2.1,.dep tTxn z.2.2.2.2.2.2.2.2.2.2.2.2.2.2.2.2.2.2.2.2.2.2.2.2.2.1 0 [],.dep tTxn z.2.2.2.2.2.2.2.2.2.2.2.2.2.2.2.2.2.2.2.2.2.2.2.2.2.2.1 0 [],.dep tTxn z.2.2.2.2.2.2.2.2.2.2.2.2.2.2.2.2.2.2.2.2.2.2.2.2.2.2.2 0 []]) (Sum.elim (fun z=>k .ret [.i z.1,.bp 0 0,.bool z.2.1,.bp 1 0,.i z.2.2.1,.dead,.bp 2 0,.dead] [.box [.lst tVersion z.2.2.2.1,.lst tTxn z.2.2.2.2.1,.lst tTxn z.2.2.2.2.2.1,.i z.2.2.2.2.2.2.1,.i z.2.2.2.2.2.2.2.1,.lst tTxn z.2.2.2.2.2.2.2.2.1],.box [.own 3,.own 4,.own 5,.i z.2.2.2.2.2.2.2.2.2.1,.i z.2.2.2.2.2.2.2.2.2.2.1,.own 6],.box [.own 7,.own 8,.own 9,.i z.2.2.2.2.2.2.2.2.2.2.2.1,.i z.2.2.2.2.2.2.2.2.2.2.2.2.1,.own 10],.arr tVersion z.2.2.2.2.2.2.2.2.2.2.2.2.2.1,.arr tTxn z.2.2.2.2.2.2.2.2.2.2.2.2.2.2.1,.arr tTxn z.2.2.2.2.2.2.2.2.2.2.2.2.2.2.2.1,.arr tTxn z.2.2.2.2.2.2.2.2.2.2.2.2.2.2.2.2.1,.arr tVersion z.2.2.2.2.2.2.2.2.2.2.2.2.2.2.2.2.2.1,.dep tTxn z.2.2.2.2.2.2.2.2.2.2.2.2.2.2.2.2.2.2.1 0 [],.dep tTxn z.2.2.2.2.2.2.2.2.2.2.2.2.2.2.2.2.2.2.2.1 0 [],.dep tTxn z.2.2.2.2.2.2.2.2.2.2.2.2.2.2.2.2.2.2.2.2 0 []]) (Sum.elim (fun z=>k .ret [.i z.1,.bp 0 0,.bool z.2.1,.bp 1 0,.i z.2.2.1,.dead,.bp 2 0,.dead] [.box [.lst tVersion z.2.2.2.1,.lst tTxn z.2.2.2.2.1,.lst tTxn z.2.2.2.2.2.1,.i z.2.2.2.2.2.2.1,.i z.2.2.2.2.2.2.2.1,.lst tTxn z.2.2.2.2.2.2.2.2.1],.box [.own 3,.own 4,.own 5,.i z.2.2.2.2.2.2.2.2.2.1,.i z.2.2.2.2.2.2.2.2.2.2.1,.lst tTxn z.2.2.2.2.2.2.2.2.2.2.2.1],.box [.own 6,.own 7,.own 8,.i z.2.2.2.2.2.2.2.2.2.2.2.2.1,.i z.2.2.2.2.2.2.2.2.2.2.2.2.2.1,.own 9],.arr tVersion z.2.2.2.2.2.2.2.2.2.2.2.2.2.2.1,.arr tTxn z.2.2.2.2.2.2.2.2.2.2.2.2.2.2.2.1,.arr tTxn z.2.2.2.2.2.2.2.2.2.2.2.2.2.2.2.2.1,.arr tVersion z.2.2.2.2.2.2.2.2.2.2.2.2.2.2.2.2.2.1,.dep tTxn z.2.2.2.2.2.2.2.2.2.2.2.2.2.2.2.2.2.2.1 0 [],.dep tTxn z.2.2.2.2.2.2.2.2.2.2.2.2.2.2.2.2.2.2.2.1 0 [],.dep tTxn z.2.2.2.2.2.2.2.2.2.2.2.2.2.2.2.2.2.2.2.2 0 []]) (fun z=>k .ret [.dead,.dead,.bool z.1,.dead,.dead,.dead,.bp 0 0,.dead] [.box [.own 1,.own 2,.own 3,.i z.2.1,.i z.2.2.1,.own 4],.arr tVersion z.2.2.2.1,.dep tTxn z.2.2.2.2.1 0 [],.dep tTxn z.2.2.2.2.2.1 0 [],.dep tTxn z.2.2.2.2.2.2 0 []]))))))
   (vaf [.i,.bp 0 0,.bool,.bp 1 0,.i,.bp 2 0,.bp 3 0,.i] [.box [.lst tVersion,.lst tTxn,.lst tTxn,.i,.i,.lst tTxn],.box [.own 4,.own 5,.own 6,.i,.i,.lst tTxn],.box [.own 7,.own 8,.own 9,.i,.i,.own 10],.box [.own 11,.own 12,.own 13,.i,.i,.own 14],.arr tVersion,.arr tTxn,.arr tTxn,.arr tVersion,.dep tTxn 0,.dep tTxn 0,.dep tTxn 0,.arr tVersion,.dep tTxn 0,.dep tTxn 0,.dep tTxn 0] vals st (fun p q=>vbf (.inr (p.1,p.2.2.1,p.2.2.2.2.1,p.2.2.2.2.2.2.2.1,q.1.1,q.1.2.1,q.1.2.2.1,q.1.2.2.2.1,q.1.2.2.2.2.1,q.1.2.2.2.2.2.1,q.2.1.2.2.2.1,q.2.1.2.2.2.2.1,q.2.1.2.2.2.2.2.1,q.2.2.1.2.2.2.1,q.2.2.1.2.2.2.2.1,q.2.2.2.1.2.2.2.1,q.2.2.2.1.2.2.2.2.1,q.2.2.2.2.1,q.2.2.2.2.2.1,q.2.2.2.2.2.2.1,q.2.2.2.2.2.2.2.1,q.2.2.2.2.2.2.2.2.1,q.2.2.2.2.2.2.2.2.2.1,q.2.2.2.2.2.2.2.2.2.2.1,q.2.2.2.2.2.2.2.2.2.2.2.1,q.2.2.2.2.2.2.2.2.2.2.2.2.1,q.2.2.2.2.2.2.2.2.2.2.2.2.2.1,q.2.2.2.2.2.2.2.2.2.2.2.2.2.2.1)) (Sum.elim (fun z=>k .ret [.i z.1,.bp 0 0,.bool z.2.1,.bp 1 0,.i z.2.2.1,.bp 2 0,.bp 3 0,.i z.2.2.2.1] [.box [.lst tVersion z.2.2.2.2.1,.lst tTxn z.2.2.2.2.2.1,.lst tTxn z.2.2.2.2.2.2.1,.i z.2.2.2.2.2.2.2.1,.i z.2.2.2.2.2.2.2.2.1,.lst tTxn z.2.2.2.2.2.2.2.2.2.1],.box [.own 4,.own 5,.own 6,.i z.2.2.2.2.2.2.2.2.2.2.1,.i z.2.2.2.2.2.2.2.2.2.2.2.1,.own 7],.box [.own 8,.own 9,.own 10,.i z.2.2.2.2.2.2.2.2.2.2.2.2.1,.i z.2.2.2.2.2.2.2.2.2.2.2.2.2.1,.own 11],.box [.own 12,.own 13,.own 14,.i z.2.2.2.2.2.2.2.2.2.2.2.2.2.2.1,.i z.2.2.2.2.2.2.2.2.2.2.2.2.2.2.2.1,.own 15],.arr tVersion z.2.2.2.2.2.2.2.2.2.2.2.2.2.2.2.2.1,.arr tTxn z.2.2.2.2.2.2.2.2.2.2.2.2.2.2.2.2.2.1,.arr tTxn z.2.2.2.2.2.2.2.2.2.2.2.2.2.2.2.2.2.2.1,.arr tTxn z.2.2.2.2.2.2.2.2.2.2.2.2.2.2.2.2.2.2.2.1,.arr tVersion z.2.2.2.2.2.2.2.2.2.2.2.2.2.2.2.2.2.2.2.2.1,.dep tTxn z.2.2.2.2.2.2.2.2.2.2.2.2.2.2.2.2.2.2.2.2.2.1 0 [],.dep tTxn z.2.2.2.2.2.2.2.2.2.2.2.2.2.2.2.2.2.2.2.2.2.2.1 0 [],.dep tTxn z.2.2.2.2.2.2.2.2.2.2.2.2.2.2.2.2.2.2.2.2.2.2.2.1 0 [],.arr tVersion z.2.2.2.2.2.2.2.2.2.2.2.2.2.2.2.2.2.2.2.2.2.2.2.2.1,.dep tTxn z.2.2.2.2.2.2.2.2.2.2.2.2.2.2.2.2.2.2.2.2.2.2.2.2.2.1 0 [],.dep tTxn z.2.2.2.2.2.2.2.2.2.2.2.2.2.2.2.2.2.2.2.2.2.2.2.2.2.2.1 0 [],.dep tTxn z.2.2.2.2.2.2.2.2.2.2.2.2.2.2.2.2.2.2.2.2.2.2.2.2.2.2.2 0 []]) (Sum.elim (fun z=>k .ret [.i z.1,.bp 0 0,.bool z.2.1,.bp 1 0,.i z.2.2.1,.bp 2 0,.bp 3 0,.i z.2.2.2.1] [.box [.lst tVersion z.2.2.2.2.1,.lst tTxn z.2.2.2.2.2.1,.lst tTxn z.2.2.2.2.2.2.1,.i z.2.2.2.2.2.2.2.1,.i z.2.2.2.2.2.2.2.2.1,.lst tTxn z.2.2.2.2.2.2.2.2.2.1],.box [.own 4,.own 5,.own 6,.i z.2.2.2.2.2.2.2.2.2.2.1,.i z.2.2.2.2.2.2.2.2.2.2.2.1,.lst tTxn z.2.2.2.2.2.2.2.2.2.2.2.2.1],.box [.own 7,.own 8,.own 9,.i z.2.2.2.2.2.2.2.2.2.2.2.2.2.1,.i z.2.2.2.2.2.2.2.2.2.2.2.2.2.2.1,.own 10],.box [.own 11,.own 12,.own 13,.i z.2.2.2.2.2.2.2.2.2.2.2.2.2.2.2.1,.i z.2.2.2.2.2.2.2.2.2.2.2.2.2.2.2.2.1,.own 14],.arr tVersion z.2.2.2.2.2.2.2.2.2.2.2.2.2.2.2.2.2.1,.arr tTxn z.2.2.2.2.2.2.2.2.2.2.2.2.2.2.2.2.2.2.1,.arr tTxn z.2.2.2.2.2.2.2.2.2.2.2.2.2.2.2.2.2.2.2.1,.arr tVersion z.2.2.2.2.2.2.2.2.2.2.2.2.2.2.2.2.2.2.2.2.1,.dep tTxn z.2.2.2.2.2.2.2.2.2.2.2.2.2.2.2.2.2.2.2.2.2.1 0 [],.dep tTxn z.2.2.2.2.2.2.2.2.2.2.2.2.2.2.2.2.2.2.2.2.2.2.1 0 [],.dep tTxn z.2.2.2.2.2.2.2.2.2.2.2.2.2.2.2.2.2.2.2.2.2.2.2.1 0 [],.arr tVersion z.2.2.2.2.2.2.2.2.2.2.2.2.2.2.2.2.2.2.2.2.2.2.2.2.1,.dep tTxn z.2.2.2.2.2.2.2.2.2.2.2.2.2.2.2.2.2.2.2.2.2.2.2.2.2.1 0 [],.dep tTxn z.2.2.2.2.2.2.2.2.2.2.2.2.2.2.2.2.2.2.2.2.2.2.2.2.2.2.1 0 [],.dep tTxn z.2.2.2.2.2.2.2.2.2.2.2.2.2.2.2.2.2.2.2.2.2.2.2.2.2.2.2 0 []]) (Sum.elim (fun z=>k .ret [.i z.1,.bp 0 0,.bool z.2.1,.bp 1 0,.i z.2.2.1,.dead,.bp 2 0,.dead] [.box [.lst tVersion z.2.2.2.1,.lst tTxn z.2.2.2.2.1,.lst tTxn z.2.2.2.2.2.1,.i z.2.2.2.2.2.2.1,.i z.2.2.2.2.2.2.2.1,.lst tTxn z.2.2.2.2.2.2.2.2.1],.box [.own 3,.own 4,.own 5,.i z.2.2.2.2.2.2.2.2.2.1,.i z.2.2.2.2.2.2.2.2.2.2.1,.own 6],.box [.own 7,.own 8,.own 9,.i z.2.2.2.2.2.2.2.2.2.2.2.1,.i z.2.2.2.2.2.2.2.2.2.2.2.2.1,.own 10],.arr tVersion z.2.2.2.2.2.2.2.2.2.2.2.2.2.1,.arr tTxn z.2.2.2.2.2.2.2.2.2.2.2.2.2.2.1,.arr tTxn z.2.2.2.2.2.2.2.2.2.2.2.2.2.2.2.1,.arr tTxn z.2.2.2.2.2.2.2.2.2.2.2.2.2.2.2.2.1,.arr tVersion z.2.2.2.2.2.2.2.2.2.2.2.2.2.2.2.2.2.1,.dep tTxn z.2.2.2.2.2.2.2.2.2.2.2.2.2.2.2.2.2.2.1 0 [],.dep tTxn z.2.2.2.2.2.2.2.2.2.2.2.2.2.2.2.2.2.2.2.1 0 [],.dep tTxn z.2.2.2.2.2.2.2.2.2.2.2.2.2.2.2.2.2.2.2.2 0 []]) (Sum.elim (fun z=>k .ret [.i z.1,.bp 0 0,.bool z.2.1,.bp 1 0,.i z.2.2.1,.dead,.bp 2 0,.dead] [.box [.lst tVersion z.2.2.2.1,.lst tTxn z.2.2.2.2.1,.lst tTxn z.2.2.2.2.2.1,.i z.2.2.2.2.2.2.1,.i z.2.2.2.2.2.2.2.1,.lst tTxn z.2.2.2.2.2.2.2.2.1],.box [.own 3,.own 4,.own 5,.i z.2.2.2.2.2.2.2.2.2.1,.i z.2.2.2.2.2.2.2.2.2.2.1,.lst tTxn z.2.2.2.2.2.2.2.2.2.2.2.1],.box [.own 6,.own 7,.own 8,.i z.2.2.2.2.2.2.2.2.2.2.2.2.1,.i z.2.2.2.2.2.2.2.2.2.2.2.2.2.1,.own 9],.arr tVersion z.2.2.2.2.2.2.2.2.2.2.2.2.2.2.1,.arr tTxn z.2.2.2.2.2.2.2.2.2.2.2.2.2.2.2.1,.arr tTxn z.2.2.2.2.2.2.2.2.2.2.2.2.2.2.2.2.1,.arr tVersion z.2.2.2.2.2.2.2.2.2.2.2.2.2.2.2.2.2.1,.dep tTxn z.2.2.2.2.2.2.2.2.2.2.2.2.2.2.2.2.2.2.1 0 [],.dep tTxn z.2.2.2.2.2.2.2.2.2.2.2.2.2.2.2.2.2.2.2.1 0 [],.dep tTxn z.2.2.2.2.2.2.2.2.2.2.2.2.2.2.2.2.2.2.2.2 0 []]) (fun z=>k .ret [.dead,.dead,.bool z.1,.dead,.dead,.dead,.bp 0 0,.dead] [.box [.own 1,.own 2,.own 3,.i z.2.1,.i z.2.2.1,.own 4],.arr tVersion z.2.2.2.1,.dep tTxn z.2.2.2.2.1 0 [],.dep tTxn z.2.2.2.2.2.1 0 [],.dep tTxn z.2.2.2.2.2.2 0 []]))))))
   (none))⟩
 |_=>none
theorem vs3:CtAt G71 ⟨0,101,vce⟩ Try.f5 5000027:=
 vin rfl (fun x=>(n15n_jp5000027 x).p) vgb vgq (exZ .ret vgb vgq) (fun _ _=>⟨rfl,rfl⟩) (fun _ _=>rfl) (fun x=>by kernel_rfl)
def vf1:(q28T⊕q27T)→List AV:=(Sum.elim (fun x=>[.i x.1,.bp 0 0,.bool x.2.1,.bp 1 0,.i x.2.2.1,.bp 2 0]) (fun x=>[.i x.1,.bp 0 0,.bool x.2.1,.bp 1 0,.i x.2.2.1,.bp 2 0]))
def vgm:(q28T⊕q27T)→St:=(Sum.elim (fun x=>[.box [.lst tVersion x.2.2.2.1,.lst tTxn x.2.2.2.2.1,.lst tTxn x.2.2.2.2.2.1,.i x.2.2.2.2.2.2.1,.i x.2.2.2.2.2.2.2.1,.lst tTxn x.2.2.2.2.2.2.2.2.1],.box [.own 3,.own 4,.own 5,.i x.2.2.2.2.2.2.2.2.2.1,.i x.2.2.2.2.2.2.2.2.2.2.1,.own 6],.box [.own 7,.own 8,.own 9,.i x.2.2.2.2.2.2.2.2.2.2.2.1,.i x.2.2.2.2.2.2.2.2.2.2.2.2.1,.own 10],.arr tVersion x.2.2.2.2.2.2.2.2.2.2.2.2.2.1,.arr tTxn x.2.2.2.2.2.2.2.2.2.2.2.2.2.2.1,.arr tTxn x.2.2.2.2.2.2.2.2.2.2.2.2.2.2.2.1,.arr tTxn x.2.2.2.2.2.2.2.2.2.2.2.2.2.2.2.2.1,.arr tVersion x.2.2.2.2.2.2.2.2.2.2.2.2.2.2.2.2.2.1,.dep tTxn x.2.2.2.2.2.2.2.2.2.2.2.2.2.2.2.2.2.2.1 0 [],.dep tTxn x.2.2.2.2.2.2.2.2.2.2.2.2.2.2.2.2.2.2.2.1 0 [],.dep tTxn x.2.2.2.2.2.2.2.2.2.2.2.2.2.2.2.2.2.2.2.2 0 []]) (fun x=>[.box [.lst tVersion x.2.2.2.1,.lst tTxn x.2.2.2.2.1,.lst tTxn x.2.2.2.2.2.1,.i x.2.2.2.2.2.2.1,.i x.2.2.2.2.2.2.2.1,.lst tTxn x.2.2.2.2.2.2.2.2.1],.box [.own 3,.own 4,.own 5,.i x.2.2.2.2.2.2.2.2.2.1,.i x.2.2.2.2.2.2.2.2.2.2.1,.lst tTxn x.2.2.2.2.2.2.2.2.2.2.2.1],.box [.own 6,.own 7,.own 8,.i x.2.2.2.2.2.2.2.2.2.2.2.2.1,.i x.2.2.2.2.2.2.2.2.2.2.2.2.2.1,.own 9],.arr tVersion x.2.2.2.2.2.2.2.2.2.2.2.2.2.2.1,.arr tTxn x.2.2.2.2.2.2.2.2.2.2.2.2.2.2.2.1,.arr tTxn x.2.2.2.2.2.2.2.2.2.2.2.2.2.2.2.2.1,.arr tVersion x.2.2.2.2.2.2.2.2.2.2.2.2.2.2.2.2.2.1,.dep tTxn x.2.2.2.2.2.2.2.2.2.2.2.2.2.2.2.2.2.2.1 0 [],.dep tTxn x.2.2.2.2.2.2.2.2.2.2.2.2.2.2.2.2.2.2.2.1 0 [],.dep tTxn x.2.2.2.2.2.2.2.2.2.2.2.2.2.2.2.2.2.2.2.2 0 []]))
def vcx:(q28T⊕(q27T⊕q20T))→Out×List AV×St:=(Sum.elim (fun z=>(.ret,[.i z.1,.bp 0 0,.bool z.2.1,.bp 1 0,.i z.2.2.1,.bp 2 0],[.box [.lst tVersion z.2.2.2.1,.lst tTxn z.2.2.2.2.1,.lst tTxn z.2.2.2.2.2.1,.i z.2.2.2.2.2.2.1,.i z.2.2.2.2.2.2.2.1,.lst tTxn z.2.2.2.2.2.2.2.2.1],.box [.own 3,.own 4,.own 5,.i z.2.2.2.2.2.2.2.2.2.1,.i z.2.2.2.2.2.2.2.2.2.2.1,.own 6],.box [.own 7,.own 8,.own 9,.i z.2.2.2.2.2.2.2.2.2.2.2.1,.i z.2.2.2.2.2.2.2.2.2.2.2.2.1,.own 10],.arr tVersion z.2.2.2.2.2.2.2.2.2.2.2.2.2.1,.arr tTxn z.2.2.2.2.2.2.2.2.2.2.2.2.2.2.1,.arr tTxn z.2.2.2.2.2.2.2.2.2.2.2.2.2.2.2.1,.arr tTxn z.2.2.2.2.2.2.2.2.2.2.2.2.2.2.2.2.1,.arr tVersion z.2.2.2.2.2.2.2.2.2.2.2.2.2.2.2.2.2.1,.dep tTxn z.2.2.2.2.2.2.2.2.2.2.2.2.2.2.2.2.2.2.1 0 [],.dep tTxn z.2.2.2.2.2.2.2.2.2.2.2.2.2.2.2.2.2.2.2.1 0 [],.dep tTxn z.2.2.2.2.2.2.2.2.2.2.2.2.2.2.2.2.2.2.2.2 0 []])) (Sum.elim (fun z=>(.ret,[.i z.1,.bp 0 0,.bool z.2.1,.bp 1 0,.i z.2.2.1,.bp 2 0],[.box [.lst tVersion z.2.2.2.1,.lst tTxn z.2.2.2.2.1,.lst tTxn z.2.2.2.2.2.1,.i z.2.2.2.2.2.2.1,.i z.2.2.2.2.2.2.2.1,.lst tTxn z.2.2.2.2.2.2.2.2.1],.box [.own 3,.own 4,.own 5,.i z.2.2.2.2.2.2.2.2.2.1,.i z.2.2.2.2.2.2.2.2.2.2.1,.lst tTxn z.2.2.2.2.2.2.2.2.2.2.2.1],.box [.own 6,.own 7,.own 8,.i z.2.2.2.2.2.2.2.2.2.2.2.2.1,.i z.2.2.2.2.2.2.2.2.2.2.2.2.2.1,.own 9],.arr tVersion z.2.2.2.2.2.2.2.2.2.2.2.2.2.2.1,.arr tTxn z.2.2.2.2.2.2.2.2.2.2.2.2.2.2.2.1,.arr tTxn z.2.2.2.2.2.2.2.2.2.2.2.2.2.2.2.2.1,.arr tVersion z.2.2.2.2.2.2.2.2.2.2.2.2.2.2.2.2.2.1,.dep tTxn z.2.2.2.2.2.2.2.2.2.2.2.2.2.2.2.2.2.2.1 0 [],.dep tTxn z.2.2.2.2.2.2.2.2.2.2.2.2.2.2.2.2.2.2.2.1 0 [],.dep tTxn z.2.2.2.2.2.2.2.2.2.2.2.2.2.2.2.2.2.2.2.2 0 []])) (fun z=>(.ret,[.dead,.dead,.bool z.1,.dead,.dead,.bp 0 0],[.box [.own 1,.own 2,.own 3,.i z.2.1,.i z.2.2.1,.own 4],.arr tVersion z.2.2.2.1,.dep tTxn z.2.2.2.2.1 0 [],.dep tTxn z.2.2.2.2.2.1 0 [],.dep tTxn z.2.2.2.2.2.2 0 []]))))
theorem vk0 (x:(q28T⊕q27T)):exec G71 ⟨0,101,vce⟩ (vc1 Try.f5 5000016) (vku ⟨0,101,vce⟩ [1,2,4,6,7,9] []) (vej (vds 101) [1,2,4,6,7,9] (vf1 x)) (vgm x)=vbr x (fun z=>some ⟨(vcx z).1,(vcx z).2.1,(vcx z).2.2⟩):=by
 rcases x with x|x<;>kernel_rfl
theorem vsw:∀sp,(vce 5000016)=some sp→v8m G71 ⟨0,101,vce⟩ sp (vc1 Try.f5 5000016):=by
 intro sp hsp vals st k r h
 cases hsp
 dsimp only at h
 rcases vbw h with⟨p,q,rfl,rfl,h⟩|h
 ·exact vmu (fun x=>(n15n_jp5000016 x).p) vf1 vgm vcx vk0 (.inl (p.1,p.2.2.1,p.2.2.2.2.1,q.1.1,q.1.2.1,q.1.2.2.1,q.1.2.2.2.1,q.1.2.2.2.2.1,q.1.2.2.2.2.2.1,q.2.1.2.2.2.1,q.2.1.2.2.2.2.1,q.2.2.1.2.2.2.1,q.2.2.1.2.2.2.2.1,q.2.2.2.1,q.2.2.2.2.1,q.2.2.2.2.2.1,q.2.2.2.2.2.2.1,q.2.2.2.2.2.2.2.1,q.2.2.2.2.2.2.2.2.1,q.2.2.2.2.2.2.2.2.2.1,q.2.2.2.2.2.2.2.2.2.2.1)) _ k r (fun z=>by rcases z with z|z|z<;>rfl) h
 rcases vbw h with⟨p,q,rfl,rfl,h⟩|h
 ·exact vmu (fun x=>(n15n_jp5000016 x).p) vf1 vgm vcx vk0 (.inr (p.1,p.2.2.1,p.2.2.2.2.1,q.1.1,q.1.2.1,q.1.2.2.1,q.1.2.2.2.1,q.1.2.2.2.2.1,q.1.2.2.2.2.2.1,q.2.1.2.2.2.1,q.2.1.2.2.2.2.1,q.2.1.2.2.2.2.2.1,q.2.2.1.2.2.2.1,q.2.2.1.2.2.2.2.1,q.2.2.2.1,q.2.2.2.2.1,q.2.2.2.2.2.1,q.2.2.2.2.2.2.1,q.2.2.2.2.2.2.2.1,q.2.2.2.2.2.2.2.2.1,q.2.2.2.2.2.2.2.2.2.1)) _ k r (fun z=>by rcases z with z|z|z<;>rfl) h
 cases h
def vf4:(q30T⊕q29T)→List AV:=(Sum.elim (fun x=>[.i x.1,.bp 0 0,.bool x.2.1,.bp 1 0,.i x.2.2.1,.bp 2 0,.bp 3 0,.i x.2.2.2.1]) (fun x=>[.i x.1,.bp 0 0,.bool x.2.1,.bp 1 0,.i x.2.2.1,.bp 2 0,.bp 3 0,.i x.2.2.2.1]))
def vgp:(q30T⊕q29T)→St:=(Sum.elim (fun x=>[.box [.lst tVersion x.2.2.2.2.1,.lst tTxn x.2.2.2.2.2.1,.lst tTxn x.2.2.2.2.2.2.1,.i x.2.2.2.2.2.2.2.1,.i x.2.2.2.2.2.2.2.2.1,.lst tTxn x.2.2.2.2.2.2.2.2.2.1],.box [.own 4,.own 5,.own 6,.i x.2.2.2.2.2.2.2.2.2.2.1,.i x.2.2.2.2.2.2.2.2.2.2.2.1,.own 7],.box [.own 8,.own 9,.own 10,.i x.2.2.2.2.2.2.2.2.2.2.2.2.1,.i x.2.2.2.2.2.2.2.2.2.2.2.2.2.1,.own 11],.box [.own 12,.own 13,.own 14,.i x.2.2.2.2.2.2.2.2.2.2.2.2.2.2.1,.i x.2.2.2.2.2.2.2.2.2.2.2.2.2.2.2.1,.own 15],.arr tVersion x.2.2.2.2.2.2.2.2.2.2.2.2.2.2.2.2.1,.arr tTxn x.2.2.2.2.2.2.2.2.2.2.2.2.2.2.2.2.2.1,.arr tTxn x.2.2.2.2.2.2.2.2.2.2.2.2.2.2.2.2.2.2.1,.arr tTxn x.2.2.2.2.2.2.2.2.2.2.2.2.2.2.2.2.2.2.2.1,.arr tVersion x.2.2.2.2.2.2.2.2.2.2.2.2.2.2.2.2.2.2.2.2.1,.dep tTxn x.2.2.2.2.2.2.2.2.2.2.2.2.2.2.2.2.2.2.2.2.2.1 0 [],.dep tTxn x.2.2.2.2.2.2.2.2.2.2.2.2.2.2.2.2.2.2.2.2.2.2.1 0 [],.dep tTxn x.2.2.2.2.2.2.2.2.2.2.2.2.2.2.2.2.2.2.2.2.2.2.2.1 0 [],.arr tVersion x.2.2.2.2.2.2.2.2.2.2.2.2.2.2.2.2.2.2.2.2.2.2.2.2.1,.dep tTxn x.2.2.2.2.2.2.2.2.2.2.2.2.2.2.2.2.2.2.2.2.2.2.2.2.2.1 0 [],.dep tTxn x.2.2.2.2.2.2.2.2.2.2.2.2.2.2.2.2.2.2.2.2.2.2.2.2.2.2.1 0 [],.dep tTxn x.2.2.2.2.2.2.2.2.2.2.2.2.2.2.2.2.2.2.2.2.2.2.2.2.2.2.2 0 []]) (fun x=>[.box [.lst tVersion x.2.2.2.2.1,.lst tTxn x.2.2.2.2.2.1,.lst tTxn x.2.2.2.2.2.2.1,.i x.2.2.2.2.2.2.2.1,.i x.2.2.2.2.2.2.2.2.1,.lst tTxn x.2.2.2.2.2.2.2.2.2.1],.box [.own 4,.own 5,.own 6,.i x.2.2.2.2.2.2.2.2.2.2.1,.i x.2.2.2.2.2.2.2.2.2.2.2.1,.lst tTxn x.2.2.2.2.2.2.2.2.2.2.2.2.1],.box [.own 7,.own 8,.own 9,.i x.2.2.2.2.2.2.2.2.2.2.2.2.2.1,.i x.2.2.2.2.2.2.2.2.2.2.2.2.2.2.1,.own 10],.box [.own 11,.own 12,.own 13,.i x.2.2.2.2.2.2.2.2.2.2.2.2.2.2.2.1,.i x.2.2.2.2.2.2.2.2.2.2.2.2.2.2.2.2.1,.own 14],.arr tVersion x.2.2.2.2.2.2.2.2.2.2.2.2.2.2.2.2.2.1,.arr tTxn x.2.2.2.2.2.2.2.2.2.2.2.2.2.2.2.2.2.2.1,.arr tTxn x.2.2.2.2.2.2.2.2.2.2.2.2.2.2.2.2.2.2.2.1,.arr tVersion x.2.2.2.2.2.2.2.2.2.2.2.2.2.2.2.2.2.2.2.2.1,.dep tTxn x.2.2.2.2.2.2.2.2.2.2.2.2.2.2.2.2.2.2.2.2.2.1 0 [],.dep tTxn x.2.2.2.2.2.2.2.2.2.2.2.2.2.2.2.2.2.2.2.2.2.2.1 0 [],.dep tTxn x.2.2.2.2.2.2.2.2.2.2.2.2.2.2.2.2.2.2.2.2.2.2.2.1 0 [],.arr tVersion x.2.2.2.2.2.2.2.2.2.2.2.2.2.2.2.2.2.2.2.2.2.2.2.2.1,.dep tTxn x.2.2.2.2.2.2.2.2.2.2.2.2.2.2.2.2.2.2.2.2.2.2.2.2.2.1 0 [],.dep tTxn x.2.2.2.2.2.2.2.2.2.2.2.2.2.2.2.2.2.2.2.2.2.2.2.2.2.2.1 0 [],.dep tTxn x.2.2.2.2.2.2.2.2.2.2.2.2.2.2.2.2.2.2.2.2.2.2.2.2.2.2.2 0 []]))
def vcy:(q30T⊕(q29T⊕(q28T⊕(q27T⊕q20T))))→Out×List AV×St:=(Sum.elim (fun z=>(.ret,[.i z.1,.bp 0 0,.bool z.2.1,.bp 1 0,.i z.2.2.1,.bp 2 0,.bp 3 0,.i z.2.2.2.1],[.box [.lst tVersion z.2.2.2.2.1,.lst tTxn z.2.2.2.2.2.1,.lst tTxn z.2.2.2.2.2.2.1,.i z.2.2.2.2.2.2.2.1,.i z.2.2.2.2.2.2.2.2.1,.lst tTxn z.2.2.2.2.2.2.2.2.2.1],.box [.own 4,.own 5,.own 6,.i z.2.2.2.2.2.2.2.2.2.2.1,.i z.2.2.2.2.2.2.2.2.2.2.2.1,.own 7],.box [.own 8,.own 9,.own 10,.i z.2.2.2.2.2.2.2.2.2.2.2.2.1,.i z.2.2.2.2.2.2.2.2.2.2.2.2.2.1,.own 11],.box [.own 12,.own 13,.own 14,.i z.2.2.2.2.2.2.2.2.2.2.2.2.2.2.1,.i z.2.2.2.2.2.2.2.2.2.2.2.2.2.2.2.1,.own 15],.arr tVersion z.2.2.2.2.2.2.2.2.2.2.2.2.2.2.2.2.1,.arr tTxn z.2.2.2.2.2.2.2.2.2.2.2.2.2.2.2.2.2.1,.arr tTxn z.2.2.2.2.2.2.2.2.2.2.2.2.2.2.2.2.2.2.1,.arr tTxn z.2.2.2.2.2.2.2.2.2.2.2.2.2.2.2.2.2.2.2.1,.arr tVersion z.2.2.2.2.2.2.2.2.2.2.2.2.2.2.2.2.2.2.2.2.1,.dep tTxn z.2.2.2.2.2.2.2.2.2.2.2.2.2.2.2.2.2.2.2.2.2.1 0 [],.dep tTxn z.2.2.2.2.2.2.2.2.2.2.2.2.2.2.2.2.2.2.2.2.2.2.1 0 [],.dep tTxn z.2.2.2.2.2.2.2.2.2.2.2.2.2.2.2.2.2.2.2.2.2.2.2.1 0 [],.arr tVersion z.2.2.2.2.2.2.2.2.2.2.2.2.2.2.2.2.2.2.2.2.2.2.2.2.1,.dep tTxn z.2.2.2.2.2.2.2.2.2.2.2.2.2.2.2.2.2.2.2.2.2.2.2.2.2.1 0 [],.dep tTxn z.2.2.2.2.2.2.2.2.2.2.2.2.2.2.2.2.2.2.2.2.2.2.2.2.2.2.1 0 [],.dep tTxn z.2.2.2.2.2.2.2.2.2.2.2.2.2.2.2.2.2.2.2.2.2.2.2.2.2.2.2 0 []])) (Sum.elim (fun z=>(.ret,[.i z.1,.bp 0 0,.bool z.2.1,.bp 1 0,.i z.2.2.1,.bp 2 0,.bp 3 0,.i z.2.2.2.1],[.box [.lst tVersion z.2.2.2.2.1,.lst tTxn z.2.2.2.2.2.1,.lst tTxn z.2.2.2.2.2.2.1,.i z.2.2.2.2.2.2.2.1,.i z.2.2.2.2.2.2.2.2.1,.lst tTxn z.2.2.2.2.2.2.2.2.2.1],.box [.own 4,.own 5,.own 6,.i z.2.2.2.2.2.2.2.2.2.2.1,.i z.2.2.2.2.2.2.2.2.2.2.2.1,.lst tTxn z.2.2.2.2.2.2.2.2.2.2.2.2.1],.box [.own 7,.own 8,.own 9,.i z.2.2.2.2.2.2.2.2.2.2.2.2.2.1,.i z.2.2.2.2.2.2.2.2.2.2.2.2.2.2.1,.own 10],.box [.own 11,.own 12,.own 13,.i z.2.2.2.2.2.2.2.2.2.2.2.2.2.2.2.1,.i z.2.2.2.2.2.2.2.2.2.2.2.2.2.2.2.2.1,.own 14],.arr tVersion z.2.2.2.2.2.2.2.2.2.2.2.2.2.2.2.2.2.1,.arr tTxn z.2.2.2.2.2.2.2.2.2.2.2.2.2.2.2.2.2.2.1,.arr tTxn z.2.2.2.2.2.2.2.2.2.2.2.2.2.2.2.2.2.2.2.1,.arr tVersion z.2.2.2.2.2.2.2.2.2.2.2.2.2.2.2.2.2.2.2.2.1,.dep tTxn z.2.2.2.2.2.2.2.2.2.2.2.2.2.2.2.2.2.2.2.2.2.1 0 [],.dep tTxn z.2.2.2.2.2.2.2.2.2.2.2.2.2.2.2.2.2.2.2.2.2.2.1 0 [],.dep tTxn z.2.2.2.2.2.2.2.2.2.2.2.2.2.2.2.2.2.2.2.2.2.2.2.1 0 [],.arr tVersion z.2.2.2.2.2.2.2.2.2.2.2.2.2.2.2.2.2.2.2.2.2.2.2.2.1,.dep tTxn z.2.2.2.2.2.2.2.2.2.2.2.2.2.2.2.2.2.2.2.2.2.2.2.2.2.1 0 [],.dep tTxn z.2.2.2.2.2.2.2.2.2.2.2.2.2.2.2.2.2.2.2.2.2.2.2.2.2.2.1 0 [],.dep tTxn z.2.2.2.2.2.2.2.2.2.2.2.2.2.2.2.2.2.2.2.2.2.2.2.2.2.2.2 0 []])) (Sum.elim (fun z=>(.ret,[.i z.1,.bp 0 0,.bool z.2.1,.bp 1 0,.i z.2.2.1,.dead,.bp 2 0,.dead],[.box [.lst tVersion z.2.2.2.1,.lst tTxn z.2.2.2.2.1,.lst tTxn z.2.2.2.2.2.1,.i z.2.2.2.2.2.2.1,.i z.2.2.2.2.2.2.2.1,.lst tTxn z.2.2.2.2.2.2.2.2.1],.box [.own 3,.own 4,.own 5,.i z.2.2.2.2.2.2.2.2.2.1,.i z.2.2.2.2.2.2.2.2.2.2.1,.own 6],.box [.own 7,.own 8,.own 9,.i z.2.2.2.2.2.2.2.2.2.2.2.1,.i z.2.2.2.2.2.2.2.2.2.2.2.2.1,.own 10],.arr tVersion z.2.2.2.2.2.2.2.2.2.2.2.2.2.1,.arr tTxn z.2.2.2.2.2.2.2.2.2.2.2.2.2.2.1,.arr tTxn z.2.2.2.2.2.2.2.2.2.2.2.2.2.2.2.1,.arr tTxn z.2.2.2.2.2.2.2.2.2.2.2.2.2.2.2.2.1,.arr tVersion z.2.2.2.2.2.2.2.2.2.2.2.2.2.2.2.2.2.1,.dep tTxn z.2.2.2.2.2.2.2.2.2.2.2.2.2.2.2.2.2.2.1 0 [],.dep tTxn z.2.2.2.2.2.2.2.2.2.2.2.2.2.2.2.2.2.2.2.1 0 [],.dep tTxn z.2.2.2.2.2.2.2.2.2.2.2.2.2.2.2.2.2.2.2.2 0 []])) (Sum.elim (fun z=>(.ret,[.i z.1,.bp 0 0,.bool z.2.1,.bp 1 0,.i z.2.2.1,.dead,.bp 2 0,.dead],[.box [.lst tVersion z.2.2.2.1,.lst tTxn z.2.2.2.2.1,.lst tTxn z.2.2.2.2.2.1,.i z.2.2.2.2.2.2.1,.i z.2.2.2.2.2.2.2.1,.lst tTxn z.2.2.2.2.2.2.2.2.1],.box [.own 3,.own 4,.own 5,.i z.2.2.2.2.2.2.2.2.2.1,.i z.2.2.2.2.2.2.2.2.2.2.1,.lst tTxn z.2.2.2.2.2.2.2.2.2.2.2.1],.box [.own 6,.own 7,.own 8,.i z.2.2.2.2.2.2.2.2.2.2.2.2.1,.i z.2.2.2.2.2.2.2.2.2.2.2.2.2.1,.own 9],.arr tVersion z.2.2.2.2.2.2.2.2.2.2.2.2.2.2.1,.arr tTxn z.2.2.2.2.2.2.2.2.2.2.2.2.2.2.2.1,.arr tTxn z.2.2.2.2.2.2.2.2.2.2.2.2.2.2.2.2.1,.arr tVersion z.2.2.2.2.2.2.2.2.2.2.2.2.2.2.2.2.2.1,.dep tTxn z.2.2.2.2.2.2.2.2.2.2.2.2.2.2.2.2.2.2.1 0 [],.dep tTxn z.2.2.2.2.2.2.2.2.2.2.2.2.2.2.2.2.2.2.2.1 0 [],.dep tTxn z.2.2.2.2.2.2.2.2.2.2.2.2.2.2.2.2.2.2.2.2 0 []])) (fun z=>(.ret,[.dead,.dead,.bool z.1,.dead,.dead,.dead,.bp 0 0,.dead],[.box [.own 1,.own 2,.own 3,.i z.2.1,.i z.2.2.1,.own 4],.arr tVersion z.2.2.2.1,.dep tTxn z.2.2.2.2.1 0 [],.dep tTxn z.2.2.2.2.2.1 0 [],.dep tTxn z.2.2.2.2.2.2 0 []]))))))
theorem vk9 (x:(q30T⊕q29T)):exec G71 ⟨0,101,vce⟩ (vc1 Try.f5 5000010) (vku ⟨0,101,vce⟩ [1,2,4,6,7,8,9,10] []) (vej (vds 101) [1,2,4,6,7,8,9,10] (vf4 x)) (vgp x)=vbf x (fun z=>some ⟨(vcy z).1,(vcy z).2.1,(vcy z).2.2⟩):=by
 rcases x with x|x<;>kernel_rfl
theorem vtb:∀sp,(vce 5000010)=some sp→v8m G71 ⟨0,101,vce⟩ sp (vc1 Try.f5 5000010):=by
 intro sp hsp vals st k r h
 cases hsp
 dsimp only at h
 rcases vbw h with⟨p,q,rfl,rfl,h⟩|h
 ·exact vmu (fun x=>(n15n_jp5000010 x).p) vf4 vgp vcy vk9 (.inl (p.1,p.2.2.1,p.2.2.2.2.1,p.2.2.2.2.2.2.2.1,q.1.1,q.1.2.1,q.1.2.2.1,q.1.2.2.2.1,q.1.2.2.2.2.1,q.1.2.2.2.2.2.1,q.2.1.2.2.2.1,q.2.1.2.2.2.2.1,q.2.2.1.2.2.2.1,q.2.2.1.2.2.2.2.1,q.2.2.2.1.2.2.2.1,q.2.2.2.1.2.2.2.2.1,q.2.2.2.2.1,q.2.2.2.2.2.1,q.2.2.2.2.2.2.1,q.2.2.2.2.2.2.2.1,q.2.2.2.2.2.2.2.2.1,q.2.2.2.2.2.2.2.2.2.1,q.2.2.2.2.2.2.2.2.2.2.1,q.2.2.2.2.2.2.2.2.2.2.2.1,q.2.2.2.2.2.2.2.2.2.2.2.2.1,q.2.2.2.2.2.2.2.2.2.2.2.2.2.1,q.2.2.2.2.2.2.2.2.2.2.2.2.2.2.1,q.2.2.2.2.2.2.2.2.2.2.2.2.2.2.2.1)) _ k r (fun z=>by rcases z with z|z|z|z|z<;>rfl) h
 rcases vbw h with⟨p,q,rfl,rfl,h⟩|h
 ·exact vmu (fun x=>(n15n_jp5000010 x).p) vf4 vgp vcy vk9 (.inr (p.1,p.2.2.1,p.2.2.2.2.1,p.2.2.2.2.2.2.2.1,q.1.1,q.1.2.1,q.1.2.2.1,q.1.2.2.2.1,q.1.2.2.2.2.1,q.1.2.2.2.2.2.1,q.2.1.2.2.2.1,q.2.1.2.2.2.2.1,q.2.1.2.2.2.2.2.1,q.2.2.1.2.2.2.1,q.2.2.1.2.2.2.2.1,q.2.2.2.1.2.2.2.1,q.2.2.2.1.2.2.2.2.1,q.2.2.2.2.1,q.2.2.2.2.2.1,q.2.2.2.2.2.2.1,q.2.2.2.2.2.2.2.1,q.2.2.2.2.2.2.2.2.1,q.2.2.2.2.2.2.2.2.2.1,q.2.2.2.2.2.2.2.2.2.2.1,q.2.2.2.2.2.2.2.2.2.2.2.1,q.2.2.2.2.2.2.2.2.2.2.2.2.1,q.2.2.2.2.2.2.2.2.2.2.2.2.2.1,q.2.2.2.2.2.2.2.2.2.2.2.2.2.2.1)) _ k r (fun z=>by rcases z with z|z|z|z|z<;>rfl) h
 cases h
theorem whf:vad Try.prog 5 v7k:=
 va0 G71_ok follows (Try.f5.body.getD .skip) Try.func5 (by kernel_rfl) fun p q=>⟨vce,(n15n_p _ _).p.map _,by rw [wai];kernel_rfl,vab (ids:=[5000027,5000016,5000010]) (by kernel_rfl) (by kernel_rfl) ⟨vs3,⟨vsw,⟨vtb,trivial⟩⟩⟩⟩
def G72:Glob:=G71.add 5 v7k
theorem wmr:GlobOk Try.prog G72:=G71_ok.add ⟨Try.f5,Try.func5,by kernel_rfl,by kernel_rfl⟩ whf
end
end Go.VE
