/- Each function told by its native program; written by gen.py. -/
import Derived.Test.YtbaniaofomgceaaTidiedS0
namespace Go.VE
open Go.Proofs
noncomputable section
set_option linter.unusedVariables false
set_option linter.unusedSimpArgs false
set_option maxRecDepth 100000
def v29:Nat→Option LoopSpec
 |_=>none
theorem wgx:vad Try.prog 53 wcr:=
 vbc G0_ok follows (Try.f53.body.getD .skip) Try.func53 (by kernel_rfl) fun p q=>⟨v29,(n35n_p _ _).p.map _,by rw [v4e];kernel_rfl,vab (ids:=[]) (by kernel_rfl) (by kernel_rfl) trivial⟩
def G1:Glob:=G0.add 53 wcr
theorem G1_ok:GlobOk Try.prog G1:=G0_ok.add ⟨Try.f53,Try.func53,by kernel_rfl,by kernel_rfl⟩ wgx
def vpr:q17T→List AV:=fun x=>[.lst tVersion x.1,.i x.2.1,.i x.2.2.1,.i x.2.2.2]
def vq1:q17T→St:=fun x=>[]
def vt6:Nat→Option LoopSpec
 |0=>some (lpS [0,1,4,5] [] [.lst tVersion,.i,.i,.i] [] vid (fun p q=>(p.1,p.2.1,p.2.2.1,p.2.2.2.1)) (fun k=>(Sum.elim (onE (exZ .ret vpr vq1) k) (onE (exZ (.exit 0) vpr vq1) k))))
 |_=>none
theorem v9p:LpAt G1 ⟨0,27,vt6⟩ Try.f26 0:=
 vaw rfl (fun x=>(n36n_bp0 x).p) vpr vq1 (Sum.elim ((exZ .ret vpr vq1)) ((exZ (.exit 0) vpr vq1))) (fun _ _=>⟨rfl,rfl⟩) (fun z=>by rcases z with z|z<;>(intro h;cases h)) (fun k z=>by rcases z with z|z<;>rfl) (fun x=>by kernel_rfl)
theorem wfo:vad Try.prog 26 wbr:=
 vbc G1_ok follows (Try.f26.body.getD .skip) Try.func26 (by kernel_rfl) fun p q=>⟨vt6,(n36n_p _ _).p.map _,by rw [v52];kernel_rfl,vab (ids:=[0]) (by kernel_rfl) (by kernel_rfl) ⟨v9p,trivial⟩⟩
def G2:Glob:=G1.add 26 wbr
theorem G2_ok:GlobOk Try.prog G2:=G1_ok.add ⟨Try.f26,Try.func26,by kernel_rfl,by kernel_rfl⟩ wfo
def v3i:Nat→Option LoopSpec
 |_=>none
theorem wgz:vad Try.prog 74 wcy:=
 vbc G2_ok follows (Try.f74.body.getD .skip) Try.func74 (by kernel_rfl) fun p q=>⟨v3i,(n31n_p _ _).p.map _,by rw [v7r];kernel_rfl,vab (ids:=[]) (by kernel_rfl) (by kernel_rfl) trivial⟩
def G3:Glob:=G2.add 74 wcy
theorem G3_ok:GlobOk Try.prog G3:=G2_ok.add ⟨Try.f74,Try.func74,by kernel_rfl,by kernel_rfl⟩ wgz
def vpb:q2T→List AV:=fun x=>[.lst tRange x.1,.i x.2.1,.i x.2.2.1,.i x.2.2.2]
def vo1:q2T→St:=fun x=>[]
def vsk:Nat→Option LoopSpec
 |0=>some (lpS [0,1,4,5] [] [.lst tRange,.i,.i,.i] [] vht (fun p q=>(p.1,p.2.1,p.2.2.1,p.2.2.2.1)) (fun k=>(Sum.elim (onE (exZ .ret vpb vo1) k) (onE (exZ (.exit 0) vpb vo1) k))))
 |_=>none
theorem v94:LpAt G3 ⟨0,27,vsk⟩ Try.f61 0:=
 vaw rfl (fun x=>(n32n_bp0 x).p) vpb vo1 (Sum.elim ((exZ .ret vpb vo1)) ((exZ (.exit 0) vpb vo1))) (fun _ _=>⟨rfl,rfl⟩) (fun z=>by rcases z with z|z<;>(intro h;cases h)) (fun k z=>by rcases z with z|z<;>rfl) (fun x=>by kernel_rfl)
theorem we7:vad Try.prog 61 wcv:=
 vbc G3_ok follows (Try.f61.body.getD .skip) Try.func61 (by kernel_rfl) fun p q=>⟨vsk,(n32n_p _ _).p.map _,by rw [v7t];kernel_rfl,vab (ids:=[0]) (by kernel_rfl) (by kernel_rfl) ⟨v94,trivial⟩⟩
def G4:Glob:=G3.add 61 wcv
theorem G4_ok:GlobOk Try.prog G4:=G3_ok.add ⟨Try.f61,Try.func61,by kernel_rfl,by kernel_rfl⟩ we7
def v3t:Nat→Option LoopSpec
 |_=>none
theorem wgn:vad Try.prog 75 wb0:=
 vbc G4_ok follows (Try.f75.body.getD .skip) Try.func75 (by kernel_rfl) fun p q=>⟨v3t,(n37n_p _ _).p.map _,by rw [v4a];kernel_rfl,vab (ids:=[]) (by kernel_rfl) (by kernel_rfl) trivial⟩
def G5:Glob:=G4.add 75 wb0
theorem G5_ok:GlobOk Try.prog G5:=G4_ok.add ⟨Try.f75,Try.func75,by kernel_rfl,by kernel_rfl⟩ wgn
def vq5:q20T→List AV:=fun x=>[.lst tWrite x.1,.i x.2.1,.i x.2.2.1,.i x.2.2.2]
def vqf:q20T→St:=fun x=>[]
def vsp:Nat→Option LoopSpec
 |0=>some (lpS [0,1,4,5] [] [.lst tWrite,.i,.i,.i] [] vja (fun p q=>(p.1,p.2.1,p.2.2.1,p.2.2.2.1)) (fun k=>(Sum.elim (onE (exZ .ret vq5 vqf) k) (onE (exZ (.exit 0) vq5 vqf) k))))
 |_=>none
theorem v8q:LpAt G5 ⟨0,27,vsp⟩ Try.f62 0:=
 vaw rfl (fun x=>(n38n_bp0 x).p) vq5 vqf (Sum.elim ((exZ .ret vq5 vqf)) ((exZ (.exit 0) vq5 vqf))) (fun _ _=>⟨rfl,rfl⟩) (fun z=>by rcases z with z|z<;>(intro h;cases h)) (fun k z=>by rcases z with z|z<;>rfl) (fun x=>by kernel_rfl)
theorem wgj:vad Try.prog 62 wc6:=
 vbc G5_ok follows (Try.f62.body.getD .skip) Try.func62 (by kernel_rfl) fun p q=>⟨vsp,(n38n_p _ _).p.map _,by rw [v6s];kernel_rfl,vab (ids:=[0]) (by kernel_rfl) (by kernel_rfl) ⟨v8q,trivial⟩⟩
def G6:Glob:=G5.add 62 wc6
theorem G6_ok:GlobOk Try.prog G6:=G5_ok.add ⟨Try.f62,Try.func62,by kernel_rfl,by kernel_rfl⟩ wgj
def v21:Nat→Option LoopSpec
 |_=>none
theorem wgw:vad Try.prog 37 wc1:=
 vbc G6_ok follows (Try.f37.body.getD .skip) Try.func37 (by kernel_rfl) fun p q=>⟨v21,(n33n_p _ _).p.map _,by rw [v5y];kernel_rfl,vab (ids:=[]) (by kernel_rfl) (by kernel_rfl) trivial⟩
def G7:Glob:=G6.add 37 wc1
theorem G7_ok:GlobOk Try.prog G7:=G6_ok.add ⟨Try.f37,Try.func37,by kernel_rfl,by kernel_rfl⟩ wgw
def vq2:q8T→List AV:=fun x=>[.lst tTxn x.1,.i x.2.1,.i x.2.2.1,.i x.2.2.2]
def vqm:q8T→St:=fun x=>[]
def vsw:Nat→Option LoopSpec
 |0=>some (lpS [0,1,4,5] [] [.lst tTxn,.i,.i,.i] [] vix (fun p q=>(p.1,p.2.1,p.2.2.1,p.2.2.2.1)) (fun k=>(Sum.elim (onE (exZ .ret vq2 vqm) k) (onE (exZ (.exit 0) vq2 vqm) k))))
 |_=>none
theorem wat:LpAt G7 ⟨0,27,vsw⟩ Try.f13 0:=
 vaw rfl (fun x=>(n34n_bp0 x).p) vq2 vqm (Sum.elim ((exZ .ret vq2 vqm)) ((exZ (.exit 0) vq2 vqm))) (fun _ _=>⟨rfl,rfl⟩) (fun z=>by rcases z with z|z<;>(intro h;cases h)) (fun k z=>by rcases z with z|z<;>rfl) (fun x=>by kernel_rfl)
theorem wes:vad Try.prog 13 wcd:=
 vbc G7_ok follows (Try.f13.body.getD .skip) Try.func13 (by kernel_rfl) fun p q=>⟨vsw,(n34n_p _ _).p.map _,by rw [v4y];kernel_rfl,vab (ids:=[0]) (by kernel_rfl) (by kernel_rfl) ⟨wat,trivial⟩⟩
def G8:Glob:=G7.add 13 wcd
theorem G8_ok:GlobOk Try.prog G8:=G7_ok.add ⟨Try.f13,Try.func13,by kernel_rfl,by kernel_rfl⟩ wes
def v3y:Nat→Option LoopSpec
 |_=>none
theorem wgd:vad Try.prog 6 wcz:=
 vbc G8_ok follows (Try.f6.body.getD .skip) Try.func6 (by kernel_rfl) fun p q=>⟨v3y,(n30n_p _ _).p.map _,by rw [v5n];kernel_rfl,vab (ids:=[]) (by kernel_rfl) (by kernel_rfl) trivial⟩
def G9:Glob:=G8.add 6 wcz
theorem G9_ok:GlobOk Try.prog G9:=G8_ok.add ⟨Try.f6,Try.func6,by kernel_rfl,by kernel_rfl⟩ wgd
def v2z:Nat→Option LoopSpec
 |_=>none
theorem wgi:vad Try.prog 55 wc8:=
 vbc G9_ok follows (Try.f55.body.getD .skip) Try.func55 (by kernel_rfl) fun p q=>⟨v2z,(n44n_p _).p.map _,by rw [v5j];kernel_rfl,vab (ids:=[]) (by kernel_rfl) (by kernel_rfl) trivial⟩
def G10:Glob:=G9.add 55 wc8
theorem G10_ok:GlobOk Try.prog G10:=G9_ok.add ⟨Try.f55,Try.func55,by kernel_rfl,by kernel_rfl⟩ wgi
def v0b:q14T→List AV:=fun x=>[.lst tVersion x.1,.own 0,.i x.2.1]
def vy2:q14T→St:=fun x=>[.arr tVersion x.2.2]
def vte:Nat→Option LoopSpec
 |0=>some (lpS [0,3,4] [] [.lst tVersion,.own 0,.i] [.arr tVersion] vh2 (fun p q=>(p.1,p.2.2.1,q.1)) (fun k=>(onE (exZ (.exit 0) v0b vy2) k)))
 |_=>none
theorem v9j:LpAt G10 ⟨0,23,vte⟩ Try.f29 0:=
 vaw rfl (fun x=>(n45n_bp0 x).p) v0b vy2 (exZ (.exit 0) v0b vy2) (fun _ _=>⟨rfl,rfl⟩) (fun z=>by(intro h;cases h)) (fun _ _=>rfl) (fun x=>by kernel_rfl)
theorem wfs:vad Try.prog 29 wca:=
 vbc G10_ok follows (Try.f29.body.getD .skip) Try.func29 (by kernel_rfl) fun p q=>⟨vte,(n45n_p _).p.map _,by rw [v6a];kernel_rfl,vab (ids:=[0]) (by kernel_rfl) (by kernel_rfl) ⟨v9j,trivial⟩⟩
def G11:Glob:=G10.add 29 wca
theorem G11_ok:GlobOk Try.prog G11:=G10_ok.add ⟨Try.f29,Try.func29,by kernel_rfl,by kernel_rfl⟩ wfs
def v3k:Nat→Option LoopSpec
 |_=>none
theorem wf9:vad Try.prog 76 wcf:=
 vbc G11_ok follows (Try.f76.body.getD .skip) Try.func76 (by kernel_rfl) fun p q=>⟨v3k,(n40n_p _).p.map _,by rw [v6h];kernel_rfl,vab (ids:=[]) (by kernel_rfl) (by kernel_rfl) trivial⟩
def G12:Glob:=G11.add 76 wcf
theorem G12_ok:GlobOk Try.prog G12:=G11_ok.add ⟨Try.f76,Try.func76,by kernel_rfl,by kernel_rfl⟩ wf9
def vyi:q1T→List AV:=fun x=>[.lst tRange x.1,.own 0,.i x.2.1]
def vz9:q1T→St:=fun x=>[.arr tRange x.2.2]
def vtt:Nat→Option LoopSpec
 |0=>some (lpS [0,3,4] [] [.lst tRange,.own 0,.i] [.arr tRange] vjb (fun p q=>(p.1,p.2.2.1,q.1)) (fun k=>(onE (exZ (.exit 0) vyi vz9) k)))
 |_=>none
theorem wbm:LpAt G12 ⟨0,23,vtt⟩ Try.f64 0:=
 vaw rfl (fun x=>(n41n_bp0 x).p) vyi vz9 (exZ (.exit 0) vyi vz9) (fun _ _=>⟨rfl,rfl⟩) (fun z=>by(intro h;cases h)) (fun _ _=>rfl) (fun x=>by kernel_rfl)
theorem wgy:vad Try.prog 64 wc7:=
 vbc G12_ok follows (Try.f64.body.getD .skip) Try.func64 (by kernel_rfl) fun p q=>⟨vtt,(n41n_p _).p.map _,by rw [v5w];kernel_rfl,vab (ids:=[0]) (by kernel_rfl) (by kernel_rfl) ⟨wbm,trivial⟩⟩
def G13:Glob:=G12.add 64 wc7
theorem G13_ok:GlobOk Try.prog G13:=G12_ok.add ⟨Try.f64,Try.func64,by kernel_rfl,by kernel_rfl⟩ wgy
def v30:Nat→Option LoopSpec
 |_=>none
theorem wf6:vad Try.prog 77 wct:=
 vbc G13_ok follows (Try.f77.body.getD .skip) Try.func77 (by kernel_rfl) fun p q=>⟨v30,(n46n_p _).p.map _,by rw [v6m];kernel_rfl,vab (ids:=[]) (by kernel_rfl) (by kernel_rfl) trivial⟩
def G14:Glob:=G13.add 77 wct
theorem G14_ok:GlobOk Try.prog G14:=G13_ok.add ⟨Try.f77,Try.func77,by kernel_rfl,by kernel_rfl⟩ wf6
def vzd:q19T→List AV:=fun x=>[.lst tWrite x.1,.own 0,.i x.2.1]
def vyl:q19T→St:=fun x=>[.arr tWrite x.2.2]
def vso:Nat→Option LoopSpec
 |0=>some (lpS [0,3,4] [] [.lst tWrite,.own 0,.i] [.arr tWrite] vh0 (fun p q=>(p.1,p.2.2.1,q.1)) (fun k=>(onE (exZ (.exit 0) vzd vyl) k)))
 |_=>none
theorem wbi:LpAt G14 ⟨0,23,vso⟩ Try.f65 0:=
 vaw rfl (fun x=>(n47n_bp0 x).p) vzd vyl (exZ (.exit 0) vzd vyl) (fun _ _=>⟨rfl,rfl⟩) (fun z=>by(intro h;cases h)) (fun _ _=>rfl) (fun x=>by kernel_rfl)
theorem wfr:vad Try.prog 65 wcw:=
 vbc G14_ok follows (Try.f65.body.getD .skip) Try.func65 (by kernel_rfl) fun p q=>⟨vso,(n47n_p _).p.map _,by rw [v5a];kernel_rfl,vab (ids:=[0]) (by kernel_rfl) (by kernel_rfl) ⟨wbi,trivial⟩⟩
def G15:Glob:=G14.add 65 wcw
theorem G15_ok:GlobOk Try.prog G15:=G14_ok.add ⟨Try.f65,Try.func65,by kernel_rfl,by kernel_rfl⟩ wfr
def v3x:Nat→Option LoopSpec
 |_=>none
theorem wfz:vad Try.prog 40 wdc:=
 vbc G15_ok follows (Try.f40.body.getD .skip) Try.func40 (by kernel_rfl) fun p q=>⟨v3x,(n42n_p _).p.map _,by rw [v4i];kernel_rfl,vab (ids:=[]) (by kernel_rfl) (by kernel_rfl) trivial⟩
def G16:Glob:=G15.add 40 wdc
theorem G16_ok:GlobOk Try.prog G16:=G15_ok.add ⟨Try.f40,Try.func40,by kernel_rfl,by kernel_rfl⟩ wfz
def vye:q5T→List AV:=fun x=>[.lst tTxn x.1,.own 0,.i x.2.1]
def vyk:q5T→St:=fun x=>[.dep tTxn x.2.2 0 []]
def vtp:Nat→Option LoopSpec
 |0=>some (lpS [0,3,4] [] [.lst tTxn,.own 0,.i] [.dep tTxn 0] vis (fun p q=>(p.1,p.2.2.1,q.1)) (fun k=>(onE (exZ (.exit 0) vye vyk) k)))
 |_=>none
theorem wbp:LpAt G16 ⟨0,23,vtp⟩ Try.f15 0:=
 vaw rfl (fun x=>(n43n_bp0 x).p) vye vyk (exZ (.exit 0) vye vyk) (fun _ _=>⟨rfl,rfl⟩) (fun z=>by(intro h;cases h)) (fun _ _=>rfl) (fun x=>by kernel_rfl)
theorem wfh:vad Try.prog 15 wck:=
 vbc G16_ok follows (Try.f15.body.getD .skip) Try.func15 (by kernel_rfl) fun p q=>⟨vtp,(n43n_p _).p.map _,by rw [v6i];kernel_rfl,vab (ids:=[0]) (by kernel_rfl) (by kernel_rfl) ⟨wbp,trivial⟩⟩
def G17:Glob:=G16.add 15 wck
theorem G17_ok:GlobOk Try.prog G17:=G16_ok.add ⟨Try.f15,Try.func15,by kernel_rfl,by kernel_rfl⟩ wfh
def v3r:Nat→Option LoopSpec
 |_=>none
theorem wex:vad Try.prog 8 wb7:=
 vbc G17_ok follows (Try.f8.body.getD .skip) Try.func8 (by kernel_rfl) fun p q=>⟨v3r,(n39n_p _).p.map _,by rw [v6w];kernel_rfl,vab (ids:=[]) (by kernel_rfl) (by kernel_rfl) trivial⟩
def G18:Glob:=G17.add 8 wb7
theorem G18_ok:GlobOk Try.prog G18:=G17_ok.add ⟨Try.f8,Try.func8,by kernel_rfl,by kernel_rfl⟩ wex
def v3c:Nat→Option LoopSpec
 |_=>none
theorem wfx:vad Try.prog 28 wcn:=
 vbc G18_ok.shallow follows (Try.f28.body.getD .skip) Try.func28 (by kernel_rfl) fun p q=>⟨v3c,(n54n_p _).p.map _,by rw [v7j];kernel_rfl,vab (ids:=[]) (by kernel_rfl) (by kernel_rfl) trivial⟩
def G19:Glob:=G18.add 28 wcn
theorem G19_ok:GlobOk Try.prog G19:=G18_ok.add ⟨Try.f28,Try.func28,by kernel_rfl,by kernel_rfl⟩ wfx
def vzb:q5T→List AV:=fun x=>[.lst tTxn x.1,.own 0,.i x.2.1]
def vz6:q5T→St:=fun x=>[.arr tTxn x.2.2]
def vth:Nat→Option LoopSpec
 |0=>some (lpS [0,3,4] [] [.lst tTxn,.own 0,.i] [.arr tTxn] vif (fun p q=>(p.1,p.2.2.1,q.1)) (fun k=>(onE (exZ (.exit 0) vzb vz6) k)))
 |_=>none
theorem v8j:LpAt G19.shallow ⟨0,21,vth⟩ Try.f54 0:=
 vaw rfl (fun x=>(n56n_bp0 x).p) vzb vz6 (exZ (.exit 0) vzb vz6) (fun _ _=>⟨rfl,rfl⟩) (fun z=>by(intro h;cases h)) (fun _ _=>rfl) (fun x=>by kernel_rfl)
theorem wfp:vad Try.prog 54 wdd:=
 vbc G19_ok.shallow follows (Try.f54.body.getD .skip) Try.func54 (by kernel_rfl) fun p q=>⟨vth,(n56n_p _).p.map _,by rw [v48];kernel_rfl,vab (ids:=[0]) (by kernel_rfl) (by kernel_rfl) ⟨v8j,trivial⟩⟩
def G20:Glob:=G19.add 54 wdd
theorem G20_ok:GlobOk Try.prog G20:=G19_ok.add ⟨Try.f54,Try.func54,by kernel_rfl,by kernel_rfl⟩ wfp
def v2u:Nat→Option LoopSpec
 |1000001=>some ⟨[2],[],fun _ _ _=>none⟩
 |_=>none
theorem wgh:vad Try.prog 27 wcx:=
 vbc G20_ok.shallow follows (Try.f27.body.getD .skip) Try.func27 (by kernel_rfl) fun p q=>⟨v2u,(n55n_p _).p.map _,by rw [v67];kernel_rfl,vab (ids:=[]) (by kernel_rfl) (by kernel_rfl) trivial⟩
def G21:Glob:=G20.add 27 wcx
theorem G21_ok:GlobOk Try.prog G21:=G20_ok.add ⟨Try.f27,Try.func27,by kernel_rfl,by kernel_rfl⟩ wgh
def vx6:((List dTxn)×Int×Int)→List AV:=fun x=>[.lst tTxn x.1,.i x.2.1,.i x.2.2]
def vyw:((List dTxn)×Int×Int)→St:=fun x=>[]
def vsz:Nat→Option LoopSpec
 |0=>some (lpS [1,5,6] [] [.lst tTxn,.i,.i] [] vi4 (fun p q=>(p.1,p.2.1,p.2.2.1)) (fun k=>(onE (exZ (.exit 0) vx6 vyw) k)))
 |_=>none
theorem v8i:LpAt G21.shallow ⟨0,28,vsz⟩ Try.f38 0:=
 vaw rfl (fun x=>(n50n_bp0 x).p) vx6 vyw (exZ (.exit 0) vx6 vyw) (fun _ _=>⟨rfl,rfl⟩) (fun z=>by(intro h;cases h)) (fun _ _=>rfl) (fun x=>by kernel_rfl)
theorem wfw:vad Try.prog 38 wb8:=
 vbc G21_ok.shallow follows (Try.f38.body.getD .skip) Try.func38 (by kernel_rfl) fun p q=>⟨vsz,(n50n_p _ _).p.map _,by rw [v6g];kernel_rfl,vab (ids:=[0]) (by kernel_rfl) (by kernel_rfl) ⟨v8i,trivial⟩⟩
def G22:Glob:=G21.add 38 wb8
theorem G22_ok:GlobOk Try.prog G22:=G21_ok.add ⟨Try.f38,Try.func38,by kernel_rfl,by kernel_rfl⟩ wfw
def vyr:q11T→List AV:=fun x=>[.lst tVersion x.1,.str x.2.1,.i x.2.2.1,.i x.2.2.2.1,.i x.2.2.2.2]
def vzw:q11T→St:=fun x=>[]
def vsn:Nat→Option LoopSpec
 |0=>some (lpS [0,1,2,7,8] [] [.lst tVersion,.str,.i,.i,.i] [] vh3 (fun p q=>(p.1,p.2.1,p.2.2.1,p.2.2.2.1,p.2.2.2.2.1)) (fun k=>(onE (exZ (.exit 0) vyr vzw) k)))
 |2000005=>some ⟨[0,2,4,6,8,10,12,14,16,18,20,22,24,26,28,30,32,34,36,38,40,42,44,46,48,50,52,54,56,58,60,62,64],[],fun _ _ _=>none⟩
 |_=>none
theorem wag:LpAt G22.shallow ⟨0,50,vsn⟩ Try.f63 0:=
 vaw rfl (fun x=>(n53n_bp0 x).p) vyr vzw (exZ (.exit 0) vyr vzw) (fun _ _=>⟨rfl,rfl⟩) (fun z=>by(intro h;cases h)) (fun _ _=>rfl) (fun x=>by kernel_rfl)
theorem wgm:vad Try.prog 63 wc9:=
 vbc G22_ok.shallow follows (Try.f63.body.getD .skip) Try.func63 (by kernel_rfl) fun p q=>⟨vsn,(n53n_p _ _ _).p.map _,by rw [v4h];kernel_rfl,vab (ids:=[0]) (by kernel_rfl) (by kernel_rfl) ⟨wag,trivial⟩⟩
def G23:Glob:=G22.add 63 wc9
theorem G23_ok:GlobOk Try.prog G23:=G22_ok.add ⟨Try.f63,Try.func63,by kernel_rfl,by kernel_rfl⟩ wgm
def vep:q16T→List AV:=fun x=>[.lst tVersion x.1,.i x.2.1,.own 0,.i x.2.2.1,.bool x.2.2.2.1]
def vej:q16T→St:=fun x=>[.arr tVersion x.2.2.2.2]
def vyy:q15T→List AV:=fun x=>[.lst tVersion x.1,.i x.2.1,.own 0,.i x.2.2.1]
def vyx:q15T→St:=fun x=>[.arr tVersion x.2.2.2]
def ve1:q28T→List AV:=fun x=>[.i x.1,.own 0,.own 1,.i x.2.1,.bool x.2.2.1]
def ven:q28T→St:=fun x=>[.arr tVersion x.2.2.2.1,.arr tVersion x.2.2.2.2]
def vz3:q30T→List AV:=fun x=>[.i x.1,.own 0,.own 1,.i x.2.1,.i x.2.2.1,.i x.2.2.2.1]
def v0d:q30T→St:=fun x=>[.arr tVersion x.2.2.2.2.1,.arr tVersion x.2.2.2.2.2]
def vzn:q27T→List AV:=fun x=>[.i x.1,.own 0,.own 1,.i x.2.1]
def vzu:q27T→St:=fun x=>[.arr tVersion x.2.2.1,.arr tVersion x.2.2.2]
def veh:Nat→Option LoopSpec
 |15000007=>some (ctS [0,1,5,6,38] [] [.lst tVersion,.i,.own 0,.i,.bool] [.arr tVersion] vbu (fun p q=>(p.1,p.2.1,p.2.2.2.1,p.2.2.2.2.1,q.1)) (fun k=>(onE (exZ .norm vep vej) k)))
 |0=>some (lpS [0,1,5,6] [] [.lst tVersion,.i,.own 0,.i] [.arr tVersion] vi3 (fun p q=>(p.1,p.2.1,p.2.2.2.1,q.1)) (fun k=>(onE (exZ (.exit 0) vyy vyx) k)))
 |15000019=>some (ctS [1,5,8,9,90] [] [.i,.own 0,.own 1,.i,.bool] [.arr tVersion,.arr tVersion] vbm (fun p q=>(p.1,p.2.2.2.1,p.2.2.2.2.1,q.1,q.2.1)) (fun k=>(onE (exZ .norm ve1 ven) k)))
 |4=>some (lpS [1,5,8,9,10,11] [] [.i,.own 0,.own 1,.i,.i,.i] [.arr tVersion,.arr tVersion] vi5 (fun p q=>(p.1,p.2.2.2.1,p.2.2.2.2.1,p.2.2.2.2.2.1,q.1,q.2.1)) (fun k=>(onE (exZ (.exit 4) vz3 v0d) k)))
 |2=>some (lpS [1,5,8,9] [] [.i,.own 0,.own 1,.i] [.arr tVersion,.arr tVersion] vhb (fun p q=>(p.1,p.2.2.2.1,q.1,q.2.1)) (fun k=>(onE (exZ (.exit 2) vzn vzu) k)))
 |2000016=>some ⟨[0,2,4,6,8,10,12,14,16,18,20],[],fun _ _ _=>none⟩
 |_=>none
theorem vpj:CtAt G23.shallow ⟨0,99,veh⟩ Try.f39 15000007:=
 vij rfl (fun x=>(n52n_jp15000007 x).p) vep vej (exZ .norm vep vej) (fun _ _=>⟨rfl,rfl⟩) (fun _ _=>rfl) (fun x=>by kernel_rfl)
theorem v9a:LpAt G23.shallow ⟨0,99,veh⟩ Try.f39 0:=
 vaw rfl (fun x=>(n52n_bp0 x).p) vyy vyx (exZ (.exit 0) vyy vyx) (fun _ _=>⟨rfl,rfl⟩) (fun z=>by(intro h;cases h)) (fun _ _=>rfl) (fun x=>by kernel_rfl)
theorem vot:CtAt G23.shallow ⟨0,99,veh⟩ Try.f39 15000019:=
 vij rfl (fun x=>(n52n_jp15000019 x).p) ve1 ven (exZ .norm ve1 ven) (fun _ _=>⟨rfl,rfl⟩) (fun _ _=>rfl) (fun x=>by kernel_rfl)
theorem wbe:LpAt G23.shallow ⟨0,99,veh⟩ Try.f39 4:=
 vaw rfl (fun x=>(n52n_bp4 x).p) vz3 v0d (exZ (.exit 4) vz3 v0d) (fun _ _=>⟨rfl,rfl⟩) (fun z=>by(intro h;cases h)) (fun _ _=>rfl) (fun x=>by kernel_rfl)
theorem v8a:LpAt G23.shallow ⟨0,99,veh⟩ Try.f39 2:=
 vaw rfl (fun x=>(n52n_bp2 x).p) vzn vzu (exZ (.exit 2) vzn vzu) (fun _ _=>⟨rfl,rfl⟩) (fun z=>by(intro h;cases h)) (fun _ _=>rfl) (fun x=>by kernel_rfl)
theorem wfm:vad Try.prog 39 wc5:=
 vbc G23_ok.shallow follows (Try.f39.body.getD .skip) Try.func39 (by kernel_rfl) fun p q=>⟨veh,(n52n_p _ _).p.map _,by rw [v70];kernel_rfl,vab (ids:=[15000007,0,15000019,4,2]) (by kernel_rfl) (by kernel_rfl) ⟨vpj,⟨v9a,⟨vot,⟨wbe,⟨v8a,trivial⟩⟩⟩⟩⟩⟩
def G24:Glob:=G23.add 39 wc5
theorem G24_ok:GlobOk Try.prog G24:=G23_ok.add ⟨Try.f39,Try.func39,by kernel_rfl,by kernel_rfl⟩ wfm
def v0c:q25T→List AV:=fun x=>[.bp 0 0,.bp 1 0,.bp 2 0,.i x.1,.i x.2.1]
def vx8:q25T→St:=fun x=>let xh:=x.2.2.2.2.2.2.2.2;[.box [.lst tVersion x.2.2.1,.lst tTxn x.2.2.2.1,.lst tTxn x.2.2.2.2.1,.i x.2.2.2.2.2.1,.i x.2.2.2.2.2.2.1],.box [.nilS,.nilS,.nilS,.i x.2.2.2.2.2.2.2.1,.i xh.1],.box [.own 3,.own 4,.own 5,.i xh.2.1,.i xh.2.2.1],.arr tVersion xh.2.2.2.1,.arr tTxn xh.2.2.2.2.1,.arr tTxn xh.2.2.2.2.2]
def vs5:Nat→Option LoopSpec
 |0=>some (lpS [2,4,5,6,7] [] [.bp 0 0,.bp 1 0,.bp 2 0,.i,.i] [.box [.lst tVersion,.lst tTxn,.lst tTxn,.i,.i],.box [.nilS,.nilS,.nilS,.i,.i],.box [.own 3,.own 4,.own 5,.i,.i],.arr tVersion,.arr tTxn,.arr tTxn] vil (fun p q=>(p.2.2.2.1,p.2.2.2.2.1,q.1.1,q.1.2.1,q.1.2.2.1,q.1.2.2.2.1,q.1.2.2.2.2.1,q.2.1.2.2.2.1,q.2.1.2.2.2.2.1,q.2.2.1.2.2.2.1,q.2.2.1.2.2.2.2.1,q.2.2.2.1,q.2.2.2.2.1,q.2.2.2.2.2.1)) (fun k=>(onE (exZ (.exit 0) v0c vx8) k)))
 |1000008=>some ⟨[4,6,7],[],fun _ _ _=>none⟩
 |_=>none
theorem v9h:LpAt G24.shallow ⟨0,47,vs5⟩ Try.f14 0:=
 vaw rfl (fun x=>(n51n_bp0 x).p) v0c vx8 (exZ (.exit 0) v0c vx8) (fun _ _=>⟨rfl,rfl⟩) (fun z=>by(intro h;cases h)) (fun _ _=>rfl) (fun x=>by kernel_rfl)
theorem wf8:vad Try.prog 14 wb3:=
 vbc G24_ok.shallow follows (Try.f14.body.getD .skip) Try.func14 (by kernel_rfl) fun p q=>⟨vs5,(n51n_p _ _).p.map _,by rw [v4g];kernel_rfl,vab (ids:=[0]) (by kernel_rfl) (by kernel_rfl) ⟨v9h,trivial⟩⟩
def G25:Glob:=G24.add 14 wb3
theorem G25_ok:GlobOk Try.prog G25:=G24_ok.add ⟨Try.f14,Try.func14,by kernel_rfl,by kernel_rfl⟩ wf8
def v31:Nat→Option LoopSpec
 |_=>none
theorem we9:vad Try.prog 73 wbs:=
 vbc G25_ok follows (Try.f73.body.getD .skip) Try.func73 (by kernel_rfl) fun p q=>⟨v31,(n06n_p _).p.map _,by rw [v5h];kernel_rfl,vab (ids:=[]) (by kernel_rfl) (by kernel_rfl) trivial⟩
def G26:Glob:=G25.add 73 wbs
theorem G26_ok:GlobOk Try.prog G26:=G25_ok.add ⟨Try.f73,Try.func73,by kernel_rfl,by kernel_rfl⟩ we9
def vzs:q6T→List AV:=fun x=>[.own 0,.lst tTxn x.1,.i x.2.1,.i x.2.2.1]
def vx5:q6T→St:=fun x=>[.dep tTxn x.2.2.2 0 []]
def vtj:Nat→Option LoopSpec
 |0=>some (lpS [3,6,7,8] [some tTxn] [.own 0,.lst tTxn,.i,.i] [.dep tTxn 0] viv (fun p q=>(p.2.1,p.2.2.1,p.2.2.2.1,q.1)) (fun k=>(onE (exZ (.exit 0) vzs vx5) k)))
 |_=>none
theorem v9e:LpAt G26 ⟨0,19,vtj⟩ Try.f56 0:=
 vaw rfl (fun x=>(n07n_bp0 x).p) vzs vx5 (exZ (.exit 0) vzs vx5) (fun _ _=>⟨rfl,rfl⟩) (fun z=>by(intro h;cases h)) (fun _ _=>rfl) (fun x=>by kernel_rfl)
theorem wgf:vad Try.prog 56 wb9:=
 vbc G26_ok follows (Try.f56.body.getD .skip) Try.func56 (by kernel_rfl) fun p q=>⟨vtj,(n07n_p _).p.map _,by rw [v4o];kernel_rfl,vab (ids:=[0]) (by kernel_rfl) (by kernel_rfl) ⟨v9e,trivial⟩⟩
def G27:Glob:=G26.add 56 wb9
theorem G27_ok:GlobOk Try.prog G27:=G26_ok.add ⟨Try.f56,Try.func56,by kernel_rfl,by kernel_rfl⟩ wgf
def v23:Nat→Option LoopSpec
 |2000002=>some ⟨[0,2,6,8,5,12,11,14,16,18],[],fun _ _ _=>none⟩
 |_=>none
theorem weo:vad Try.prog 30 wbu:=
 vbc G27_ok follows (Try.f30.body.getD .skip) Try.func30 (by kernel_rfl) fun p q=>⟨v23,(n05n_p _).p.map _,by rw [v6n];kernel_rfl,vab (ids:=[]) (by kernel_rfl) (by kernel_rfl) trivial⟩
def G28:Glob:=G27.add 30 wbu
theorem G28_ok:GlobOk Try.prog G28:=G27_ok.add ⟨Try.f30,Try.func30,by kernel_rfl,by kernel_rfl⟩ weo
def vyf:q23T→List AV:=fun x=>[.i x.1,.lst tTxn x.2.1,.i x.2.2.1,.i x.2.2.2]
def vzy:q23T→St:=fun x=>[]
def vue:Nat→Option LoopSpec
 |0=>some (lpS [5,10,11,12] [] [.i,.lst tTxn,.i,.i] [] vji (fun p q=>(p.1,p.2.1,p.2.2.1,p.2.2.2.1)) (fun k=>(onE (exZ (.exit 0) vyf vzy) k)))
 |_=>none
theorem v8f:LpAt G28 ⟨0,22,vue⟩ Try.f41 0:=
 vaw rfl (fun x=>(n00n_bp0 x).p) vyf vzy (exZ (.exit 0) vyf vzy) (fun _ _=>⟨rfl,rfl⟩) (fun z=>by(intro h;cases h)) (fun _ _=>rfl) (fun x=>by kernel_rfl)
theorem wev:vad Try.prog 41 wcp:=
 vbc G28_ok follows (Try.f41.body.getD .skip) Try.func41 (by kernel_rfl) fun p q=>⟨vue,(n00n_p _ _).p.map _,by rw [v64];kernel_rfl,vab (ids:=[0]) (by kernel_rfl) (by kernel_rfl) ⟨v8f,trivial⟩⟩
def G29:Glob:=G28.add 41 wcp
theorem G29_ok:GlobOk Try.prog G29:=G28_ok.add ⟨Try.f41,Try.func41,by kernel_rfl,by kernel_rfl⟩ wev
def v3g:Nat→Option LoopSpec
 |_=>none
theorem wfu:vad Try.prog 42 wby:=
 vbc G29_ok follows (Try.f42.body.getD .skip) Try.func42 (by kernel_rfl) fun p q=>⟨v3g,(n02n_p _ _).p.map _,by rw [v68];kernel_rfl,vab (ids:=[]) (by kernel_rfl) (by kernel_rfl) trivial⟩
def G30:Glob:=G29.add 42 wby
theorem G30_ok:GlobOk Try.prog G30:=G29_ok.add ⟨Try.f42,Try.func42,by kernel_rfl,by kernel_rfl⟩ wfu
def vrd:q7T→List AV:=fun x=>[.lst tTxn x.1,.fn 42 [.bp 0 0],.i x.2.1,.i x.2.2.1,.i x.2.2.2.1]
def vqq:q7T→St:=fun x=>[.box [.i x.2.2.2.2]]
def vtk:Nat→Option LoopSpec
 |0=>some (lpS [0,1,4,7,8] [] [.lst tTxn,.fn 42 [.bp 0 0],.i,.i,.i] [.box [.i]] vh8 (fun p q=>(p.1,p.2.2.1,p.2.2.2.1,p.2.2.2.2.1,q.1.1)) (fun k=>(Sum.elim (onE (exZ .ret vrd vqq) k) (onE (exZ (.exit 0) vrd vqq) k))))
 |_=>none
theorem v85:LpAt G30 ⟨1,19,vtk⟩ Try.f57 0:=
 vaw rfl (fun x=>(n49n_bp0 x).p) vrd vqq (Sum.elim ((exZ .ret vrd vqq)) ((exZ (.exit 0) vrd vqq))) (fun _ _=>⟨rfl,rfl⟩) (fun z=>by rcases z with z|z<;>(intro h;cases h)) (fun k z=>by rcases z with z|z<;>rfl) (fun x=>by kernel_rfl)
theorem vhq:vad Try.prog 57 vdh:=
 vbc G30_ok follows (Try.f57.body.getD .skip) Try.func57 (by kernel_rfl) fun p q=>⟨vtk,(n49n_p _ _).p.map _,by rw [v50];kernel_rfl,vab (ids:=[0]) (by kernel_rfl) (by kernel_rfl) ⟨v85,trivial⟩⟩
def G31:Glob:=G30.add 57 vdh
theorem G31_ok:GlobOk Try.prog G31:=G30_ok.add ⟨Try.f57,Try.func57,by kernel_rfl,by kernel_rfl⟩ vhq
def vgj:Nat→Option LoopSpec
 |0=>some ⟨[0,1,5,6],[],fun vals st k=>val [.own 0,.fn 42 [.bp 1 0],.i,.i] [.mov tTxn 0,.box [.i]] vals st (fun p q=>vac vev Fuel (.inl (p.2.2.1,p.2.2.2.1,q.1.1,q.1.2,q.2.1.1)) (Sum.elim (fun z=>k (.exit 0) [.own 0,.fn 42 [.bp 1 0],.i z.1,.i z.2.1] [.dep tTxn z.2.2.1 0 z.2.2.2.1,.box [.i z.2.2.2.2]]) (fun z=>k (.exit 0) [.own 0,.fn 42 [.bp 1 0],.i z.1,.i z.2.1] [.dep tTxn z.2.2.1 1 z.2.2.2.1,.box [.i z.2.2.2.2]])))
   (val [.own 0,.fn 42 [.bp 1 0],.i,.i] [.mov tTxn 1,.box [.i]] vals st (fun p q=>vac vev Fuel (.inr (p.2.2.1,p.2.2.2.1,q.1.1,q.1.2,q.2.1.1)) (Sum.elim (fun z=>k (.exit 0) [.own 0,.fn 42 [.bp 1 0],.i z.1,.i z.2.1] [.dep tTxn z.2.2.1 0 z.2.2.2.1,.box [.i z.2.2.2.2]]) (fun z=>k (.exit 0) [.own 0,.fn 42 [.bp 1 0],.i z.1,.i z.2.1] [.dep tTxn z.2.2.1 1 z.2.2.2.1,.box [.i z.2.2.2.2]])))
   (none))⟩
 |_=>none
def vuv:((Int×Int×(List dTxn)×(List Nat)×Int)⊕(Int×Int×(List dTxn)×(List Nat)×Int))→List AV:=(Sum.elim (fun x=>[.own 0,.fn 42 [.bp 1 0],.i x.1,.i x.2.1]) (fun x=>[.own 0,.fn 42 [.bp 1 0],.i x.1,.i x.2.1]))
def vuw:((Int×Int×(List dTxn)×(List Nat)×Int)⊕(Int×Int×(List dTxn)×(List Nat)×Int))→St:=(Sum.elim (fun x=>[.dep tTxn x.2.2.1 0 x.2.2.2.1,.box [.i x.2.2.2.2]]) (fun x=>[.dep tTxn x.2.2.1 1 x.2.2.2.1,.box [.i x.2.2.2.2]]))
def vow:((Int×Int×(List dTxn)×(List Nat)×Int)⊕(Int×Int×(List dTxn)×(List Nat)×Int))→Out×List AV×St:=(Sum.elim (fun z=>((.exit 0),[.own 0,.fn 42 [.bp 1 0],.i z.1,.i z.2.1],[.dep tTxn z.2.2.1 0 z.2.2.2.1,.box [.i z.2.2.2.2]])) (fun z=>((.exit 0),[.own 0,.fn 42 [.bp 1 0],.i z.1,.i z.2.1],[.dep tTxn z.2.2.1 1 z.2.2.2.1,.box [.i z.2.2.2.2]])))
theorem v2i (x:((Int×Int×(List dTxn)×(List Nat)×Int)⊕(Int×Int×(List dTxn)×(List Nat)×Int))):exec G31 ⟨2,42,vgj⟩ (vjy Try.f31 0) (vmp ⟨2,42,vgj⟩ [0,1,5,6] []) (vfv (vd7 42) [0,1,5,6] (vuv x)) (vuw x)=vev x (Sum.elim (fun y=>some ⟨.norm,vuv y,vuw y⟩) fun z=>some ⟨(vow z).1,(vow z).2.1,(vow z).2.2⟩):=by
 rcases x with x|x<;>kernel_rfl
theorem v8k:∀sp,(vgj 0)=some sp→v1u G31 ⟨2,42,vgj⟩ sp (vjy Try.f31 0):=by
 intro sp hsp vals st k r h
 cases hsp
 dsimp only at h
 rcases ves h with⟨p,q,rfl,rfl,h⟩|h
 ·exact vml (fun x=>(n48n_bp0 x).p) vuv vuw vow (fun z=>by rcases z with z|z<;>(intro h;cases h)) v2i Fuel (.inl (p.2.2.1,p.2.2.2.1,q.1.1,q.1.2,q.2.1.1)) _ k r (fun z=>by rcases z with z|z<;>rfl) h
 rcases ves h with⟨p,q,rfl,rfl,h⟩|h
 ·exact vml (fun x=>(n48n_bp0 x).p) vuv vuw vow (fun z=>by rcases z with z|z<;>(intro h;cases h)) v2i Fuel (.inr (p.2.2.1,p.2.2.2.1,q.1.1,q.1.2,q.2.1.1)) _ k r (fun z=>by rcases z with z|z<;>rfl) h
 cases h
theorem vgz:vad Try.prog 31 vc3:=
 vbc G31_ok follows (Try.f31.body.getD .skip) Try.func31 (by kernel_rfl) fun p q=>⟨vgj,(n48n_p _ _).p.map2 _ _,by rw [v5z];kernel_rfl,vab (ids:=[0]) (by kernel_rfl) (by kernel_rfl) ⟨v8k,trivial⟩⟩
def G32:Glob:=G31.add 31 vc3
theorem G32_ok:GlobOk Try.prog G32:=G31_ok.add ⟨Try.f31,Try.func31,by kernel_rfl,by kernel_rfl⟩ vgz
def vzx:q10T→List AV:=fun x=>[.lst tVersion x.1,.str x.2.1,.i x.2.2.1,.i x.2.2.2.1,.lst tVersion x.2.2.2.2.1,.i x.2.2.2.2.2.1,.i x.2.2.2.2.2.2]
def vz4:q10T→St:=fun x=>[]
def vsj:Nat→Option LoopSpec
 |0=>some (lpS [0,1,2,7,10,11,12] [] [.lst tVersion,.str,.i,.i,.lst tVersion,.i,.i] [] vh5 (fun p q=>(p.1,p.2.1,p.2.2.1,p.2.2.2.1,p.2.2.2.2.1,p.2.2.2.2.2.1,p.2.2.2.2.2.2.1)) (fun k=>(onE (exZ (.exit 0) vzx vz4) k)))
 |2000005=>some ⟨[0,2,4,6,8,10,12,14,16,18,20,22,24,26,28,30,32,34,36,38,40,42,44,46],[],fun _ _ _=>none⟩
 |_=>none
theorem wa2:LpAt G32 ⟨0,44,vsj⟩ Try.f66 0:=
 vaw rfl (fun x=>(n08n_bp0 x).p) vzx vz4 (exZ (.exit 0) vzx vz4) (fun _ _=>⟨rfl,rfl⟩) (fun z=>by(intro h;cases h)) (fun _ _=>rfl) (fun x=>by kernel_rfl)
theorem wep:vad Try.prog 66 wco:=
 vbc G32_ok follows (Try.f66.body.getD .skip) Try.func66 (by kernel_rfl) fun p q=>⟨vsj,(n08n_p _ _ _).p.map _,by rw [v38];kernel_rfl,vab (ids:=[0]) (by kernel_rfl) (by kernel_rfl) ⟨wa2,trivial⟩⟩
def G33:Glob:=G32.add 66 wco
theorem G33_ok:GlobOk Try.prog G33:=G32_ok.add ⟨Try.f66,Try.func66,by kernel_rfl,by kernel_rfl⟩ wep
def vzq:q22T→List AV:=fun x=>[.str x.1,.i x.2.1,.own 1,.i x.2.2.1,.i x.2.2.2.1]
def vzc:q22T→St:=fun x=>[.box [.own 1],.arr tVersion x.2.2.2.2]
def vsi:Nat→Option LoopSpec
 |0=>some (lpS [0,4,7,8,9] [] [.str,.i,.own 1,.i,.i] [.box [.own 1],.arr tVersion] vje (fun p q=>(p.1,p.2.1,p.2.2.2.1,p.2.2.2.2.1,q.2.1)) (fun k=>(onE (exZ (.exit 0) vzq vzc) k)))
 |_=>none
theorem v9r:LpAt G33 ⟨2,21,vsi⟩ Try.f67 0:=
 vaw rfl (fun x=>(n04n_bp0 x).p) vzq vzc (exZ (.exit 0) vzq vzc) (fun _ _=>⟨rfl,rfl⟩) (fun z=>by(intro h;cases h)) (fun _ _=>rfl) (fun x=>by kernel_rfl)
theorem wg0:vad Try.prog 67 wb4:=
 vbc G33_ok follows (Try.f67.body.getD .skip) Try.func67 (by kernel_rfl) fun p q=>⟨vsi,(n04n_p _ _).p.map _,by rw [v5c];kernel_rfl,vab (ids:=[0]) (by kernel_rfl) (by kernel_rfl) ⟨v9r,trivial⟩⟩
def G34:Glob:=G33.add 67 wb4
theorem G34_ok:GlobOk Try.prog G34:=G33_ok.add ⟨Try.f67,Try.func67,by kernel_rfl,by kernel_rfl⟩ wg0
def vek:q13T→List AV:=fun x=>[.lst tVersion x.1,.i x.2.1,.bp 0 0,.bp 1 0,.lst tVersion x.2.2.1,.i x.2.2.2.1,.i x.2.2.2.2.1,.bool x.2.2.2.2.2.1]
def ve0:q13T→St:=fun x=>let xh:=x.2.2.2.2.2.2.2.2;[.box [.own 2],.box [.str x.2.2.2.2.2.2.1,.str x.2.2.2.2.2.2.2.1,.bool xh.1,.i xh.2.1],.arr tVersion xh.2.2]
def vzh:q12T→List AV:=fun x=>[.lst tVersion x.1,.i x.2.1,.bp 0 0,.lst tVersion x.2.2.1,.i x.2.2.2.1,.i x.2.2.2.2.1]
def vy0:q12T→St:=fun x=>[.box [.own 1],.arr tVersion x.2.2.2.2.2]
def v0f:q29T→List AV:=fun x=>[.i x.1,.fn 67 [.bp 0 0],.own 1,.own 2,.i x.2.1,.i x.2.2.1]
def vz7:q29T→St:=fun x=>[.box [.own 2],.arr tVersion x.2.2.2.1,.arr tVersion x.2.2.2.2]
def vjx:Nat→Option LoopSpec
 |15000006=>some (ctS [0,1,5,7,12,13,14,31] [none,none,none,none,none,none,none,none,some tVersion] [.lst tVersion,.i,.bp 0 0,.bp 1 0,.lst tVersion,.i,.i,.bool] [.box [.own 2],.box [.str,.str,.bool,.i],.arr tVersion] vbt (fun p q=>(p.1,p.2.1,p.2.2.2.2.1,p.2.2.2.2.2.1,p.2.2.2.2.2.2.1,p.2.2.2.2.2.2.2.1,q.2.1.1,q.2.1.2.1,q.2.1.2.2.1,q.2.1.2.2.2.1,q.2.2.1)) (fun k=>(onE (exZ .norm vek ve0) k)))
 |0=>some (lpS [0,1,5,12,13,14] [none,none,none,none,none,none,some tVersion] [.lst tVersion,.i,.bp 0 0,.lst tVersion,.i,.i] [.box [.own 1],.arr tVersion] vip (fun p q=>(p.1,p.2.1,p.2.2.2.1,p.2.2.2.2.1,p.2.2.2.2.2.1,q.2.1)) (fun k=>(onE (exZ (.exit 0) vzh vy0) k)))
 |2=>some (lpS [1,8,9,38,39,40] [none,none,some tVersion,some tVersion,none,none,some tVersion] [.i,.fn 67 [.bp 0 0],.own 1,.own 2,.i,.i] [.box [.own 2],.arr tVersion,.arr tVersion] vii (fun p q=>(p.1,p.2.2.2.2.1,p.2.2.2.2.2.1,q.2.1,q.2.2.1)) (fun k=>(onE (exZ (.exit 2) v0f vz7) k)))
 |_=>none
theorem vrk:CtAt G34 ⟨0,66,vjx⟩ Try.f43 15000006:=
 vij rfl (fun x=>(n03n_jp15000006 x).p) vek ve0 (exZ .norm vek ve0) (fun _ _=>⟨rfl,rfl⟩) (fun _ _=>rfl) (fun x=>by kernel_rfl)
theorem v99:LpAt G34 ⟨0,66,vjx⟩ Try.f43 0:=
 vaw rfl (fun x=>(n03n_bp0 x).p) vzh vy0 (exZ (.exit 0) vzh vy0) (fun _ _=>⟨rfl,rfl⟩) (fun z=>by(intro h;cases h)) (fun _ _=>rfl) (fun x=>by kernel_rfl)
theorem wa6:LpAt G34 ⟨0,66,vjx⟩ Try.f43 2:=
 vaw rfl (fun x=>(n03n_bp2 x).p) v0f vz7 (exZ (.exit 2) v0f vz7) (fun _ _=>⟨rfl,rfl⟩) (fun z=>by(intro h;cases h)) (fun _ _=>rfl) (fun x=>by kernel_rfl)
theorem wfn:vad Try.prog 43 wci:=
 vbc G34_ok follows (Try.f43.body.getD .skip) Try.func43 (by kernel_rfl) fun p q=>⟨vjx,(n03n_p _ _).p.map _,by rw [v53];kernel_rfl,vab (ids:=[15000006,0,2]) (by kernel_rfl) (by kernel_rfl) ⟨vrk,⟨v99,⟨wa6,trivial⟩⟩⟩⟩
def G35:Glob:=G34.add 43 wci
theorem G35_ok:GlobOk Try.prog G35:=G34_ok.add ⟨Try.f43,Try.func43,by kernel_rfl,by kernel_rfl⟩ wfn
def v36:Nat→Option LoopSpec
 |_=>none
theorem wet:vad Try.prog 16 wc4:=
 vbc G35_ok follows (Try.f16.body.getD .skip) Try.func16 (by kernel_rfl) fun p q=>⟨v36,(n01n_p _ _).p.map _,by rw [v5e];kernel_rfl,vab (ids:=[]) (by kernel_rfl) (by kernel_rfl) trivial⟩
def G36:Glob:=G35.add 16 wc4
theorem G36_ok:GlobOk Try.prog G36:=G35_ok.add ⟨Try.f16,Try.func16,by kernel_rfl,by kernel_rfl⟩ wet
def v3j:Nat→Option LoopSpec
 |_=>none
theorem wf5:vad Try.prog 58 wch:=
 vbc G36_ok follows (Try.f58.body.getD .skip) Try.func58 (by kernel_rfl) fun p q=>⟨v3j,(n15n_p _ _).p.map _,by rw [v5t];kernel_rfl,vab (ids:=[]) (by kernel_rfl) (by kernel_rfl) trivial⟩
def G37:Glob:=G36.add 58 wch
theorem G37_ok:GlobOk Try.prog G37:=G36_ok.add ⟨Try.f58,Try.func58,by kernel_rfl,by kernel_rfl⟩ wf5
def vrg:q9T→List AV:=fun x=>[.lst tVersion x.1,.lst tVersion x.2.1,.bool x.2.2.1,.i x.2.2.2]
def vql:q9T→St:=fun x=>[]
def vto:Nat→Option LoopSpec
 |0=>some (lpS [0,1,4,5] [] [.lst tVersion,.lst tVersion,.bool,.i] [] vjp (fun p q=>(p.1,p.2.1,p.2.2.1,p.2.2.2.1)) (fun k=>(Sum.elim (onE (exZ .ret vrg vql) k) (onE (exZ (.exit 0) vrg vql) k))))
 |2000006=>some ⟨[0,2,4,6,8,10,12,14,16,18],[],fun _ _ _=>none⟩
 |_=>none
theorem v9o:LpAt G37 ⟨0,27,vto⟩ Try.f33 0:=
 vaw rfl (fun x=>(n16n_bp0 x).p) vrg vql (Sum.elim ((exZ .ret vrg vql)) ((exZ (.exit 0) vrg vql))) (fun _ _=>⟨rfl,rfl⟩) (fun z=>by rcases z with z|z<;>(intro h;cases h)) (fun k z=>by rcases z with z|z<;>rfl) (fun x=>by kernel_rfl)
theorem wft:vad Try.prog 33 wcm:=
 vbc G37_ok follows (Try.f33.body.getD .skip) Try.func33 (by kernel_rfl) fun p q=>⟨vto,(n16n_p _ _).p.map _,by rw [v62];kernel_rfl,vab (ids:=[0]) (by kernel_rfl) (by kernel_rfl) ⟨v9o,trivial⟩⟩
def G38:Glob:=G37.add 33 wcm
theorem G38_ok:GlobOk Try.prog G38:=G37_ok.add ⟨Try.f33,Try.func33,by kernel_rfl,by kernel_rfl⟩ wft
def v3l:Nat→Option LoopSpec
 |_=>none
theorem we4:vad Try.prog 78 wbq:=
 vbc G38_ok follows (Try.f78.body.getD .skip) Try.func78 (by kernel_rfl) fun p q=>⟨v3l,(n11n_p _ _).p.map _,by rw [v58];kernel_rfl,vab (ids:=[]) (by kernel_rfl) (by kernel_rfl) trivial⟩
def G39:Glob:=G38.add 78 wbq
theorem G39_ok:GlobOk Try.prog G39:=G38_ok.add ⟨Try.f78,Try.func78,by kernel_rfl,by kernel_rfl⟩ we4
def vrj:q0T→List AV:=fun x=>[.lst tRange x.1,.lst tRange x.2.1,.bool x.2.2.1,.i x.2.2.2]
def vrf:q0T→St:=fun x=>[]
def vti:Nat→Option LoopSpec
 |0=>some (lpS [0,1,4,5] [] [.lst tRange,.lst tRange,.bool,.i] [] vjj (fun p q=>(p.1,p.2.1,p.2.2.1,p.2.2.2.1)) (fun k=>(Sum.elim (onE (exZ .ret vrj vrf) k) (onE (exZ (.exit 0) vrj vrf) k))))
 |2000006=>some ⟨[0,2,4,6,8,10,12,14,16,18],[],fun _ _ _=>none⟩
 |_=>none
theorem v8w:LpAt G39 ⟨0,27,vti⟩ Try.f68 0:=
 vaw rfl (fun x=>(n12n_bp0 x).p) vrj vrf (Sum.elim ((exZ .ret vrj vrf)) ((exZ (.exit 0) vrj vrf))) (fun _ _=>⟨rfl,rfl⟩) (fun z=>by rcases z with z|z<;>(intro h;cases h)) (fun k z=>by rcases z with z|z<;>rfl) (fun x=>by kernel_rfl)
theorem wfi:vad Try.prog 68 wda:=
 vbc G39_ok follows (Try.f68.body.getD .skip) Try.func68 (by kernel_rfl) fun p q=>⟨vti,(n12n_p _ _).p.map _,by rw [v7p];kernel_rfl,vab (ids:=[0]) (by kernel_rfl) (by kernel_rfl) ⟨v8w,trivial⟩⟩
def G40:Glob:=G39.add 68 wda
theorem G40_ok:GlobOk Try.prog G40:=G39_ok.add ⟨Try.f68,Try.func68,by kernel_rfl,by kernel_rfl⟩ wfi
def v32:Nat→Option LoopSpec
 |_=>none
theorem wfv:vad Try.prog 79 wbv:=
 vbc G40_ok follows (Try.f79.body.getD .skip) Try.func79 (by kernel_rfl) fun p q=>⟨v32,(n17n_p _ _).p.map _,by rw [v5o];kernel_rfl,vab (ids:=[]) (by kernel_rfl) (by kernel_rfl) trivial⟩
def G41:Glob:=G40.add 79 wbv
theorem G41_ok:GlobOk Try.prog G41:=G40_ok.add ⟨Try.f79,Try.func79,by kernel_rfl,by kernel_rfl⟩ wfv
def vqv:q18T→List AV:=fun x=>[.lst tWrite x.1,.lst tWrite x.2.1,.bool x.2.2.1,.i x.2.2.2]
def vo3:q18T→St:=fun x=>[]
def vua:Nat→Option LoopSpec
 |0=>some (lpS [0,1,4,5] [] [.lst tWrite,.lst tWrite,.bool,.i] [] vib (fun p q=>(p.1,p.2.1,p.2.2.1,p.2.2.2.1)) (fun k=>(Sum.elim (onE (exZ .ret vqv vo3) k) (onE (exZ (.exit 0) vqv vo3) k))))
 |2000006=>some ⟨[0,2,4,6,8,10,12,14,16,18],[],fun _ _ _=>none⟩
 |_=>none
theorem v8p:LpAt G41 ⟨0,27,vua⟩ Try.f69 0:=
 vaw rfl (fun x=>(n18n_bp0 x).p) vqv vo3 (Sum.elim ((exZ .ret vqv vo3)) ((exZ (.exit 0) vqv vo3))) (fun _ _=>⟨rfl,rfl⟩) (fun z=>by rcases z with z|z<;>(intro h;cases h)) (fun k z=>by rcases z with z|z<;>rfl) (fun x=>by kernel_rfl)
theorem wgr:vad Try.prog 69 wcl:=
 vbc G41_ok follows (Try.f69.body.getD .skip) Try.func69 (by kernel_rfl) fun p q=>⟨vua,(n18n_p _ _).p.map _,by rw [v4r];kernel_rfl,vab (ids:=[0]) (by kernel_rfl) (by kernel_rfl) ⟨v8p,trivial⟩⟩
def G42:Glob:=G41.add 69 wcl
theorem G42_ok:GlobOk Try.prog G42:=G41_ok.add ⟨Try.f69,Try.func69,by kernel_rfl,by kernel_rfl⟩ wgr
def v35:Nat→Option LoopSpec
 |_=>none
theorem wgp:vad Try.prog 44 wc2:=
 vbc G42_ok follows (Try.f44.body.getD .skip) Try.func44 (by kernel_rfl) fun p q=>⟨v35,(n13n_p _ _).p.map _,by rw [v6o];kernel_rfl,vab (ids:=[]) (by kernel_rfl) (by kernel_rfl) trivial⟩
def G43:Glob:=G42.add 44 wc2
theorem G43_ok:GlobOk Try.prog G43:=G42_ok.add ⟨Try.f44,Try.func44,by kernel_rfl,by kernel_rfl⟩ wgp
def vov:q3T→List AV:=fun x=>[.lst tTxn x.1,.lst tTxn x.2.1,.bool x.2.2.1,.i x.2.2.2]
def vqx:q3T→St:=fun x=>[]
def vs3:Nat→Option LoopSpec
 |0=>some (lpS [0,1,4,5] [] [.lst tTxn,.lst tTxn,.bool,.i] [] vjg (fun p q=>(p.1,p.2.1,p.2.2.1,p.2.2.2.1)) (fun k=>(Sum.elim (onE (exZ .ret vov vqx) k) (onE (exZ (.exit 0) vov vqx) k))))
 |2000006=>some ⟨[0,2,4,6,8,10,12,14,16,18],[],fun _ _ _=>none⟩
 |_=>none
theorem wbk:LpAt G43 ⟨0,27,vs3⟩ Try.f17 0:=
 vaw rfl (fun x=>(n14n_bp0 x).p) vov vqx (Sum.elim ((exZ .ret vov vqx)) ((exZ (.exit 0) vov vqx))) (fun _ _=>⟨rfl,rfl⟩) (fun z=>by rcases z with z|z<;>(intro h;cases h)) (fun k z=>by rcases z with z|z<;>rfl) (fun x=>by kernel_rfl)
theorem wgo:vad Try.prog 17 wb1:=
 vbc G43_ok follows (Try.f17.body.getD .skip) Try.func17 (by kernel_rfl) fun p q=>⟨vs3,(n14n_p _ _).p.map _,by rw [v59];kernel_rfl,vab (ids:=[0]) (by kernel_rfl) (by kernel_rfl) ⟨wbk,trivial⟩⟩
def G44:Glob:=G43.add 17 wb1
theorem G44_ok:GlobOk Try.prog G44:=G43_ok.add ⟨Try.f17,Try.func17,by kernel_rfl,by kernel_rfl⟩ wgo
def v2v:Nat→Option LoopSpec
 |_=>none
theorem wfa:vad Try.prog 10 wb6:=
 vbc G44_ok follows (Try.f10.body.getD .skip) Try.func10 (by kernel_rfl) fun p q=>⟨v2v,(n10n_p _ _).p.map _,by rw [v10];kernel_rfl,vab (ids:=[]) (by kernel_rfl) (by kernel_rfl) trivial⟩
def G45:Glob:=G44.add 10 wb6
theorem G45_ok:GlobOk Try.prog G45:=G44_ok.add ⟨Try.f10,Try.func10,by kernel_rfl,by kernel_rfl⟩ wfa
def vzp:(Int×ByteArray)→List AV:=fun x=>[.i x.1,.str x.2]
def vya:(Int×ByteArray)→St:=fun x=>[]
def vud:Nat→Option LoopSpec
 |0=>some (lpS [0,3] [] [.i,.str] [] vk4 (fun p q=>(p.1,p.2.1)) (fun k=>(onE (exZ (.exit 0) vzp vya) k)))
 |_=>none
theorem v9v:LpAt G45 ⟨0,20,vud⟩ Try.f47 0:=
 vaw rfl (fun x=>(n26n_bp0 x).p) vzp vya (exZ (.exit 0) vzp vya) (fun _ _=>⟨rfl,rfl⟩) (fun z=>by(intro h;cases h)) (fun _ _=>rfl) (fun x=>by kernel_rfl)
theorem wfc:vad Try.prog 47 wcj:=
 vbc G45_ok follows (Try.f47.body.getD .skip) Try.func47 (by kernel_rfl) fun p q=>⟨vud,(n26n_p _).p.map _,by rw [v6j];kernel_rfl,vab (ids:=[0]) (by kernel_rfl) (by kernel_rfl) ⟨v9v,trivial⟩⟩
def G46:Glob:=G45.add 47 wcj
theorem G46_ok:GlobOk Try.prog G46:=G45_ok.add ⟨Try.f47,Try.func47,by kernel_rfl,by kernel_rfl⟩ wfc
def vyt:(Int×Int×(List vaa))→List AV:=fun x=>[.own 0,.i x.1,.i x.2.1]
def vy6:(Int×Int×(List vaa))→St:=fun x=>[.arr tVersion x.2.2]
def vty:Nat→Option LoopSpec
 |0=>some (lpS [0,1,5] [] [.own 0,.i,.i] [.arr tVersion] vhz (fun p q=>(p.2.1,p.2.2.1,q.1)) (fun k=>(onE (exZ (.exit 0) vyt vy6) k)))
 |_=>none
theorem v8n:LpAt G46 ⟨1,45,vty⟩ Try.f34 0:=
 vaw rfl (fun x=>(n28n_bp0 x).p) vyt vy6 (exZ (.exit 0) vyt vy6) (fun _ _=>⟨rfl,rfl⟩) (fun z=>by(intro h;cases h)) (fun _ _=>rfl) (fun x=>by kernel_rfl)
theorem vkq:vad Try.prog 34 vew:=
 vbc G46_ok follows (Try.f34.body.getD .skip) Try.func34 (by kernel_rfl) fun p q=>⟨vty,(n28n_p _ _).p.map _,by rw [v60];kernel_rfl,vab (ids:=[0]) (by kernel_rfl) (by kernel_rfl) ⟨v8n,trivial⟩⟩
def G47:Glob:=G46.add 34 vew
theorem G47_ok:GlobOk Try.prog G47:=G46_ok.add ⟨Try.f34,Try.func34,by kernel_rfl,by kernel_rfl⟩ vkq
def vyb:(Int×Int×(List vaj))→List AV:=fun x=>[.own 0,.i x.1,.i x.2.1]
def vyn:(Int×Int×(List vaj))→St:=fun x=>[.arr tRange x.2.2]
def vs6:Nat→Option LoopSpec
 |0=>some (lpS [0,1,5] [] [.own 0,.i,.i] [.arr tRange] vle (fun p q=>(p.2.1,p.2.2.1,q.1)) (fun k=>(onE (exZ (.exit 0) vyb vyn) k)))
 |_=>none
theorem v8x:LpAt G47 ⟨1,29,vs6⟩ Try.f45 0:=
 vaw rfl (fun x=>(n25n_bp0 x).p) vyb vyn (exZ (.exit 0) vyb vyn) (fun _ _=>⟨rfl,rfl⟩) (fun z=>by(intro h;cases h)) (fun _ _=>rfl) (fun x=>by kernel_rfl)
theorem vm8:vad Try.prog 45 vgl:=
 vbc G47_ok follows (Try.f45.body.getD .skip) Try.func45 (by kernel_rfl) fun p q=>⟨vs6,(n25n_p _ _).p.map _,by rw [v7m];kernel_rfl,vab (ids:=[0]) (by kernel_rfl) (by kernel_rfl) ⟨v8x,trivial⟩⟩
def G48:Glob:=G47.add 45 vgl
theorem G48_ok:GlobOk Try.prog G48:=G47_ok.add ⟨Try.f45,Try.func45,by kernel_rfl,by kernel_rfl⟩ vm8
def vyu:(Int×Int×(List vak))→List AV:=fun x=>[.own 0,.i x.1,.i x.2.1]
def vyg:(Int×Int×(List vak))→St:=fun x=>[.arr tWrite x.2.2]
def vtf:Nat→Option LoopSpec
 |0=>some (lpS [0,1,5] [] [.own 0,.i,.i] [.arr tWrite] vk8 (fun p q=>(p.2.1,p.2.2.1,q.1)) (fun k=>(onE (exZ (.exit 0) vyu vyg) k)))
 |_=>none
theorem wab:LpAt G48 ⟨1,38,vtf⟩ Try.f46 0:=
 vaw rfl (fun x=>(n29n_bp0 x).p) vyu vyg (exZ (.exit 0) vyu vyg) (fun _ _=>⟨rfl,rfl⟩) (fun z=>by(intro h;cases h)) (fun _ _=>rfl) (fun x=>by kernel_rfl)
theorem vmq:vad Try.prog 46 vgi:=
 vbc G48_ok follows (Try.f46.body.getD .skip) Try.func46 (by kernel_rfl) fun p q=>⟨vtf,(n29n_p _ _).p.map _,by rw [v7e];kernel_rfl,vab (ids:=[0]) (by kernel_rfl) (by kernel_rfl) ⟨wab,trivial⟩⟩
def G49:Glob:=G48.add 46 vgi
theorem G49_ok:GlobOk Try.prog G49:=G48_ok.add ⟨Try.f46,Try.func46,by kernel_rfl,by kernel_rfl⟩ vmq
def vfx:(Int×Int×(List dTxn))→List AV:=fun x=>[.own 0,.i x.1,.i x.2.1]
def vf5:(Int×Int×(List dTxn))→St:=fun x=>[.dep tTxn x.2.2 0 []]
def vfn:(Int×Int×(List dTxn))→List AV:=fun x=>[.own 0,.i x.1,.i x.2.1]
def vfr:(Int×Int×(List dTxn))→St:=fun x=>[.dep tTxn x.2.2 0 []]
def vf9:(Int×Int×(List dTxn))→List AV:=fun x=>[.own 0,.i x.1,.i x.2.1]
def vfm:(Int×Int×(List dTxn))→St:=fun x=>[.dep tTxn x.2.2 0 []]
def vf6:(Int×Int×(List dTxn))→List AV:=fun x=>[.own 0,.i x.1,.i x.2.1]
def vfw:(Int×Int×(List dTxn))→St:=fun x=>[.dep tTxn x.2.2 0 []]
def vfl:(Int×Int×(List dTxn))→List AV:=fun x=>[.own 0,.i x.1,.i x.2.1]
def vfz:(Int×Int×(List dTxn))→St:=fun x=>[.dep tTxn x.2.2 0 []]
def vfi:(Int×Int×(List dTxn))→List AV:=fun x=>[.own 0,.i x.1,.i x.2.1]
def vga:(Int×Int×(List dTxn))→St:=fun x=>[.dep tTxn x.2.2 0 []]
def vf3:(Int×Int×(List dTxn))→List AV:=fun x=>[.own 0,.i x.1,.i x.2.1]
def vfp:(Int×Int×(List dTxn))→St:=fun x=>[.dep tTxn x.2.2 0 []]
def vz2:(Int×Int×(List dTxn))→List AV:=fun x=>[.own 0,.i x.1,.i x.2.1]
def vx9:(Int×Int×(List dTxn))→St:=fun x=>[.dep tTxn x.2.2 0 []]
def vci:Nat→Option LoopSpec
 |5000003=>some (ctS [0,1,5] [] [.own 0,.i,.i] [.dep tTxn 0] vc8 (fun p q=>(p.2.1,p.2.2.1,q.1)) (fun k=>(onE (exZ .norm vfx vf5) k)))
 |5000017=>some (ctS [0,1,5] [] [.own 0,.i,.i] [.dep tTxn 0] vc9 (fun p q=>(p.2.1,p.2.2.1,q.1)) (fun k=>(onE (exZ .norm vfn vfr) k)))
 |5000015=>some (ctS [0,1,5] [] [.own 0,.i,.i] [.dep tTxn 0] vdg (fun p q=>(p.2.1,p.2.2.1,q.1)) (fun k=>(onE (exZ .norm vf9 vfm) k)))
 |5000011=>some (ctS [0,1,5] [] [.own 0,.i,.i] [.dep tTxn 0] vdf (fun p q=>(p.2.1,p.2.2.1,q.1)) (fun k=>(onE (exZ .norm vf6 vfw) k)))
 |5000009=>some (ctS [0,1,5] [] [.own 0,.i,.i] [.dep tTxn 0] vdd (fun p q=>(p.2.1,p.2.2.1,q.1)) (fun k=>(onE (exZ .norm vfl vfz) k)))
 |5000007=>some (ctS [0,1,5] [] [.own 0,.i,.i] [.dep tTxn 0] vc7 (fun p q=>(p.2.1,p.2.2.1,q.1)) (fun k=>(onE (exZ .norm vfi vga) k)))
 |5000005=>some (ctS [0,1,5] [] [.own 0,.i,.i] [.dep tTxn 0] vda (fun p q=>(p.2.1,p.2.2.1,q.1)) (fun k=>(onE (exZ .norm vf3 vfp) k)))
 |0=>some (lpS [0,1,5] [] [.own 0,.i,.i] [.dep tTxn 0] via (fun p q=>(p.2.1,p.2.2.1,q.1)) (fun k=>(onE (exZ (.exit 0) vz2 vx9) k)))
 |_=>none
theorem vr0:CtAt G49 ⟨1,72,vci⟩ Try.f18 5000003:=
 vij rfl (fun x=>(n27n_jp5000003 x).p) vfx vf5 (exZ .norm vfx vf5) (fun _ _=>⟨rfl,rfl⟩) (fun _ _=>rfl) (fun x=>by kernel_rfl)
theorem vrv:CtAt G49 ⟨1,72,vci⟩ Try.f18 5000017:=
 vij rfl (fun x=>(n27n_jp5000017 x).p) vfn vfr (exZ .norm vfn vfr) (fun _ _=>⟨rfl,rfl⟩) (fun _ _=>rfl) (fun x=>by kernel_rfl)
theorem vru:CtAt G49 ⟨1,72,vci⟩ Try.f18 5000015:=
 vij rfl (fun x=>(n27n_jp5000015 x).p) vf9 vfm (exZ .norm vf9 vfm) (fun _ _=>⟨rfl,rfl⟩) (fun _ _=>rfl) (fun x=>by kernel_rfl)
theorem vrw:CtAt G49 ⟨1,72,vci⟩ Try.f18 5000011:=
 vij rfl (fun x=>(n27n_jp5000011 x).p) vf6 vfw (exZ .norm vf6 vfw) (fun _ _=>⟨rfl,rfl⟩) (fun _ _=>rfl) (fun x=>by kernel_rfl)
theorem vrx:CtAt G49 ⟨1,72,vci⟩ Try.f18 5000009:=
 vij rfl (fun x=>(n27n_jp5000009 x).p) vfl vfz (exZ .norm vfl vfz) (fun _ _=>⟨rfl,rfl⟩) (fun _ _=>rfl) (fun x=>by kernel_rfl)
theorem vrs:CtAt G49 ⟨1,72,vci⟩ Try.f18 5000007:=
 vij rfl (fun x=>(n27n_jp5000007 x).p) vfi vga (exZ .norm vfi vga) (fun _ _=>⟨rfl,rfl⟩) (fun _ _=>rfl) (fun x=>by kernel_rfl)
theorem vrz:CtAt G49 ⟨1,72,vci⟩ Try.f18 5000005:=
 vij rfl (fun x=>(n27n_jp5000005 x).p) vf3 vfp (exZ .norm vf3 vfp) (fun _ _=>⟨rfl,rfl⟩) (fun _ _=>rfl) (fun x=>by kernel_rfl)
theorem wa5:LpAt G49 ⟨1,72,vci⟩ Try.f18 0:=
 vaw rfl (fun x=>(n27n_bp0 x).p) vz2 vx9 (exZ (.exit 0) vz2 vx9) (fun _ _=>⟨rfl,rfl⟩) (fun z=>by(intro h;cases h)) (fun _ _=>rfl) (fun x=>by kernel_rfl)
theorem vqg:vad Try.prog 18 vjh:=
 vbc G49_ok follows (Try.f18.body.getD .skip) Try.func18 (by kernel_rfl) fun p q=>⟨vci,(n27n_p _ _).p.map _,by rw [v4x];kernel_rfl,vab (ids:=[5000003,5000017,5000015,5000011,5000009,5000007,5000005,0]) (by kernel_rfl) (by kernel_rfl) ⟨vr0,⟨vrv,⟨vru,⟨vrw,⟨vrx,⟨vrs,⟨vrz,⟨wa5,trivial⟩⟩⟩⟩⟩⟩⟩⟩⟩
def G50:Glob:=G49.add 18 vjh
theorem G50_ok:GlobOk Try.prog G50:=G49_ok.add ⟨Try.f18,Try.func18,by kernel_rfl,by kernel_rfl⟩ vqg
def v28:Nat→Option LoopSpec
 |_=>none
theorem vqd:vad Try.prog 11 vhy:=
 vbc G50_ok follows (Try.f11.body.getD .skip) Try.func11 (by kernel_rfl) fun p q=>⟨v28,(n24n_p _ _ _ _ _ _).p.map _,by rw [v44];kernel_rfl,vab (ids:=[]) (by kernel_rfl) (by kernel_rfl) trivial⟩
def G51:Glob:=G50.add 11 vhy
theorem G51_ok:GlobOk Try.prog G51:=G50_ok.add ⟨Try.f11,Try.func11,by kernel_rfl,by kernel_rfl⟩ vqd
def vqh:q17T→List AV:=fun x=>[.lst tVersion x.1,.i x.2.1,.i x.2.2.1,.i x.2.2.2]
def vqc:q17T→St:=fun x=>[]
def vsh:Nat→Option LoopSpec
 |0=>some (lpS [0,1,4,5] [] [.lst tVersion,.i,.i,.i] [] vi1 (fun p q=>(p.1,p.2.1,p.2.2.1,p.2.2.2.1)) (fun k=>(Sum.elim (onE (exZ .ret vqh vqc) k) (onE (exZ (.exit 0) vqh vqc) k))))
 |2000004=>some ⟨[0,2,4,6,8,10,13,14],[],fun _ _ _=>none⟩
 |2000007=>some ⟨[0,2,4,6,8,10,13,14],[],fun _ _ _=>none⟩
 |_=>none
theorem wam:LpAt G51 ⟨0,53,vsh⟩ Try.f35 0:=
 vaw rfl (fun x=>(n22n_bp0 x).p) vqh vqc (Sum.elim ((exZ .ret vqh vqc)) ((exZ (.exit 0) vqh vqc))) (fun _ _=>⟨rfl,rfl⟩) (fun z=>by rcases z with z|z<;>(intro h;cases h)) (fun k z=>by rcases z with z|z<;>rfl) (fun x=>by kernel_rfl)
theorem we2:vad Try.prog 35 wc0:=
 vbc G51_ok follows (Try.f35.body.getD .skip) Try.func35 (by kernel_rfl) fun p q=>⟨vsh,(n22n_p _ _).p.map _,by rw [v7z];kernel_rfl,vab (ids:=[0]) (by kernel_rfl) (by kernel_rfl) ⟨wam,trivial⟩⟩
def G52:Glob:=G51.add 35 wc0
theorem G52_ok:GlobOk Try.prog G52:=G51_ok.add ⟨Try.f35,Try.func35,by kernel_rfl,by kernel_rfl⟩ we2
def vqo:q2T→List AV:=fun x=>[.lst tRange x.1,.i x.2.1,.i x.2.2.1,.i x.2.2.2]
def vpx:q2T→St:=fun x=>[]
def vt8:Nat→Option LoopSpec
 |0=>some (lpS [0,1,4,5] [] [.lst tRange,.i,.i,.i] [] vjc (fun p q=>(p.1,p.2.1,p.2.2.1,p.2.2.2.1)) (fun k=>(Sum.elim (onE (exZ .ret vqo vpx) k) (onE (exZ (.exit 0) vqo vpx) k))))
 |2000004=>some ⟨[0,2,4,6,8,10,13,14],[],fun _ _ _=>none⟩
 |2000007=>some ⟨[0,2,4,6,8,10,13,14],[],fun _ _ _=>none⟩
 |_=>none
theorem v91:LpAt G52 ⟨0,33,vt8⟩ Try.f59 0:=
 vaw rfl (fun x=>(n20n_bp0 x).p) vqo vpx (Sum.elim ((exZ .ret vqo vpx)) ((exZ (.exit 0) vqo vpx))) (fun _ _=>⟨rfl,rfl⟩) (fun z=>by rcases z with z|z<;>(intro h;cases h)) (fun k z=>by rcases z with z|z<;>rfl) (fun x=>by kernel_rfl)
theorem wf0:vad Try.prog 59 wcb:=
 vbc G52_ok follows (Try.f59.body.getD .skip) Try.func59 (by kernel_rfl) fun p q=>⟨vt8,(n20n_p _ _).p.map _,by rw [v5q];kernel_rfl,vab (ids:=[0]) (by kernel_rfl) (by kernel_rfl) ⟨v91,trivial⟩⟩
def G53:Glob:=G52.add 59 wcb
theorem G53_ok:GlobOk Try.prog G53:=G52_ok.add ⟨Try.f59,Try.func59,by kernel_rfl,by kernel_rfl⟩ wf0
def vrb:q20T→List AV:=fun x=>[.lst tWrite x.1,.i x.2.1,.i x.2.2.1,.i x.2.2.2]
def vq6:q20T→St:=fun x=>[]
def vs7:Nat→Option LoopSpec
 |0=>some (lpS [0,1,4,5] [] [.lst tWrite,.i,.i,.i] [] viy (fun p q=>(p.1,p.2.1,p.2.2.1,p.2.2.2.1)) (fun k=>(Sum.elim (onE (exZ .ret vrb vq6) k) (onE (exZ (.exit 0) vrb vq6) k))))
 |2000004=>some ⟨[0,2,4,6,8,10,13,14],[],fun _ _ _=>none⟩
 |2000007=>some ⟨[0,2,4,6,8,10,13,14],[],fun _ _ _=>none⟩
 |_=>none
theorem v9x:LpAt G53 ⟨0,44,vs7⟩ Try.f60 0:=
 vaw rfl (fun x=>(n23n_bp0 x).p) vrb vq6 (Sum.elim ((exZ .ret vrb vq6)) ((exZ (.exit 0) vrb vq6))) (fun _ _=>⟨rfl,rfl⟩) (fun z=>by rcases z with z|z<;>(intro h;cases h)) (fun k z=>by rcases z with z|z<;>rfl) (fun x=>by kernel_rfl)
theorem wgq:vad Try.prog 60 wcq:=
 vbc G53_ok follows (Try.f60.body.getD .skip) Try.func60 (by kernel_rfl) fun p q=>⟨vs7,(n23n_p _ _).p.map _,by rw [v40];kernel_rfl,vab (ids:=[0]) (by kernel_rfl) (by kernel_rfl) ⟨v9x,trivial⟩⟩
def G54:Glob:=G53.add 60 wcq
theorem G54_ok:GlobOk Try.prog G54:=G53_ok.add ⟨Try.f60,Try.func60,by kernel_rfl,by kernel_rfl⟩ wgq
def vpe:q8T→List AV:=fun x=>[.lst tTxn x.1,.i x.2.1,.i x.2.2.1,.i x.2.2.2]
def vp9:q8T→St:=fun x=>[]
def vr8:Nat→Option LoopSpec
 |0=>some (lpS [0,1,4,5] [] [.lst tTxn,.i,.i,.i] [] vir (fun p q=>(p.1,p.2.1,p.2.2.1,p.2.2.2.1)) (fun k=>(Sum.elim (onE (exZ .ret vpe vp9) k) (onE (exZ (.exit 0) vpe vp9) k))))
 |2000025=>some ⟨[0,2,4,6,8,10,13,14],[],fun _ _ _=>none⟩
 |_=>none
theorem v9k:LpAt G54 ⟨0,88,vr8⟩ Try.f36 0:=
 vaw rfl (fun x=>(n21n_bp0 x).p) vpe vp9 (Sum.elim ((exZ .ret vpe vp9)) ((exZ (.exit 0) vpe vp9))) (fun _ _=>⟨rfl,rfl⟩) (fun z=>by rcases z with z|z<;>(intro h;cases h)) (fun k z=>by rcases z with z|z<;>rfl) (fun x=>by kernel_rfl)
theorem wf7:vad Try.prog 36 wcs:=
 vbc G54_ok follows (Try.f36.body.getD .skip) Try.func36 (by kernel_rfl) fun p q=>⟨vr8,(n21n_p _ _).p.map _,by rw [v7n];kernel_rfl,vab (ids:=[0]) (by kernel_rfl) (by kernel_rfl) ⟨v9k,trivial⟩⟩
def G55:Glob:=G54.add 36 wcs
theorem G55_ok:GlobOk Try.prog G55:=G54_ok.add ⟨Try.f36,Try.func36,by kernel_rfl,by kernel_rfl⟩ wf7
def v2y:Nat→Option LoopSpec
 |_=>none
theorem wfk:vad Try.prog 12 wbt:=
 vbc G55_ok follows (Try.f12.body.getD .skip) Try.func12 (by kernel_rfl) fun p q=>⟨v2y,(n19n_p _ _).p.map _,by rw [v73];kernel_rfl,vab (ids:=[]) (by kernel_rfl) (by kernel_rfl) trivial⟩
def G56:Glob:=G55.add 12 wbt
theorem G56_ok:GlobOk Try.prog G56:=G55_ok.add ⟨Try.f12,Try.func12,by kernel_rfl,by kernel_rfl⟩ wfk
def vfk:q4T→List AV:=fun x=>[.lst tTxn x.1,.bp 0 0,.bool x.2.1,.bp 1 0,.bp 2 0]
def vfs:q4T→St:=fun x=>let xh:=x.2.2.2.2.2.2.2.2;[.box [.lst tVersion x.2.2.1,.lst tTxn x.2.2.2.1,.lst tTxn x.2.2.2.2.1,.i x.2.2.2.2.2.1,.i x.2.2.2.2.2.2.1],.box [.own 3,.own 4,.own 5,.i x.2.2.2.2.2.2.2.1,.i xh.1],.box [.own 6,.own 7,.own 8,.i xh.2.1,.i xh.2.2.1],.arr tVersion xh.2.2.2.1,.arr tTxn xh.2.2.2.2.1,.arr tTxn xh.2.2.2.2.2.1,.arr tVersion xh.2.2.2.2.2.2.1,.dep tTxn xh.2.2.2.2.2.2.2.1 0 [],.dep tTxn xh.2.2.2.2.2.2.2.2 0 []]
def vt1:Nat→Option LoopSpec
 |5000023=>some (ctS [1,2,4,6,9] [] [.lst tTxn,.bp 0 0,.bool,.bp 1 0,.bp 2 0] [.box [.lst tVersion,.lst tTxn,.lst tTxn,.i,.i],.box [.own 3,.own 4,.own 5,.i,.i],.box [.own 6,.own 7,.own 8,.i,.i],.arr tVersion,.arr tTxn,.arr tTxn,.arr tVersion,.dep tTxn 0,.dep tTxn 0] vcf (fun p q=>(p.1,p.2.2.1,q.1.1,q.1.2.1,q.1.2.2.1,q.1.2.2.2.1,q.1.2.2.2.2.1,q.2.1.2.2.2.1,q.2.1.2.2.2.2.1,q.2.2.1.2.2.2.1,q.2.2.1.2.2.2.2.1,q.2.2.2.1,q.2.2.2.2.1,q.2.2.2.2.2.1,q.2.2.2.2.2.2.1,q.2.2.2.2.2.2.2.1,q.2.2.2.2.2.2.2.2.1)) (fun k=>(onE (exZ .ret vfk vfs) k)))
 |_=>none
theorem vrp:CtAt G56 ⟨0,92,vt1⟩ Try.f4 5000023:=
 vij rfl (fun x=>(n09n_jp5000023 x).p) vfk vfs (exZ .ret vfk vfs) (fun _ _=>⟨rfl,rfl⟩) (fun _ _=>rfl) (fun x=>by kernel_rfl)
theorem wb5:vad Try.prog 4 v71:=
 vbc G56_ok follows (Try.f4.body.getD .skip) Try.func4 (by kernel_rfl) fun p q=>⟨vt1,(n09n_p _ _).p.map _,by rw [v7y];kernel_rfl,vab (ids:=[5000023]) (by kernel_rfl) (by kernel_rfl) ⟨vrp,trivial⟩⟩
def G57:Glob:=G56.add 4 v71
theorem whe:GlobOk Try.prog G57:=G56_ok.add ⟨Try.f4,Try.func4,by kernel_rfl,by kernel_rfl⟩ wb5
end
end Go.VE
