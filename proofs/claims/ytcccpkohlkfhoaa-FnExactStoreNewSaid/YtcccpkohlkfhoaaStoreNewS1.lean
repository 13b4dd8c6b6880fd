/- Each function told by its native program; written by gen.py. -/
import Derived.Test.YtcccpkohlkfhoaaStoreNewS0
namespace Go.VE
open Go.Proofs
noncomputable section
set_option linter.unusedVariables false
set_option linter.unusedSimpArgs false
set_option maxRecDepth 100000
def vwm:Nat→Option LoopSpec
 |_=>none
theorem v5f:vab Try.prog 56 v3u:=
 va4 G0_ok.shallow follows (Try.f56.body.getD .skip) Try.func56 (by kernel_rfl) fun p q=>⟨vwm,n41n_p.p.map _,by rw [vzq];kernel_rfl,vaa (ids:=[]) (by kernel_rfl) (by kernel_rfl) trivial⟩
def G1:Glob:=G0.add 56 v3u
theorem G1_ok:GlobOk Try.prog G1:=G0_ok.add ⟨Try.f56,Try.func56,by kernel_rfl,by kernel_rfl⟩ v5f
def vwv:Nat→Option LoopSpec
 |_=>none
theorem v5z:vab Try.prog 40 v3m:=
 va4 G1_ok.shallow follows (Try.f40.body.getD .skip) Try.func40 (by kernel_rfl) fun p q=>⟨vwv,n43n_p.p.map _,by rw [vxz];kernel_rfl,vaa (ids:=[]) (by kernel_rfl) (by kernel_rfl) trivial⟩
def G2:Glob:=G1.add 40 v3m
theorem G2_ok:GlobOk Try.prog G2:=G1_ok.add ⟨Try.f40,Try.func40,by kernel_rfl,by kernel_rfl⟩ v5z
def vw5:Nat→Option LoopSpec
 |_=>none
theorem v6a:vab Try.prog 58 v3o:=
 va4 G2_ok.shallow follows (Try.f58.body.getD .skip) Try.func58 (by kernel_rfl) fun p q=>⟨vw5,n49n_p.p.map _,by rw [vzd];kernel_rfl,vaa (ids:=[]) (by kernel_rfl) (by kernel_rfl) trivial⟩
def G3:Glob:=G2.add 58 v3o
theorem G3_ok:GlobOk Try.prog G3:=G2_ok.add ⟨Try.f58,Try.func58,by kernel_rfl,by kernel_rfl⟩ v6a
def vwz:Nat→Option LoopSpec
 |_=>none
theorem v5u:vab Try.prog 75 v25:=
 va4 G3_ok.shallow follows (Try.f75.body.getD .skip) Try.func75 (by kernel_rfl) fun p q=>⟨vwz,(n46n_p _ _ _).p.map _,by rw [v0o];kernel_rfl,vaa (ids:=[]) (by kernel_rfl) (by kernel_rfl) trivial⟩
def G4:Glob:=G3.add 75 v25
theorem G4_ok:GlobOk Try.prog G4:=G3_ok.add ⟨Try.f75,Try.func75,by kernel_rfl,by kernel_rfl⟩ v5u
def vts:(Int×Int×Int×(List Int))→List AV:=fun x=>[.i x.1,.int .u8 x.2.1,.own 0,.i x.2.2.1]
def vtp:(Int×Int×Int×(List Int))→St:=fun x=>[.arr (.int .u8) x.2.2.2]
def vnc:Nat→Option LoopSpec
 |0=>some (lpS [0,1,5,6] [] [.i,.int .u8,.own 0,.i] [.arr (.int .u8)] vg7 (fun p q=>(p.1,p.2.1,p.2.2.2.1,q.1)) (fun k=>(onE (exZ (.exit 0) vts vtp) k)))
 |_=>none
theorem v00:LpAt G4.shallow ⟨0,20,vnc⟩ Try.f97 0:=
 vbf rfl (fun x=>(n47n_bp0 x).p) vts vtp (exZ (.exit 0) vts vtp) (fun _ _=>⟨rfl,rfl⟩) (fun z=>by(intro h;cases h)) (fun _ _=>rfl) (fun x=>by kernel_rfl)
theorem v69:vab Try.prog 97 v4b:=
 va4 G4_ok.shallow follows (Try.f97.body.getD .skip) Try.func97 (by kernel_rfl) fun p q=>⟨vnc,(n47n_p _ _).p.map _,by rw [vx2];kernel_rfl,vaa (ids:=[0]) (by kernel_rfl) (by kernel_rfl) ⟨v00,trivial⟩⟩
def G5:Glob:=G4.add 97 v4b
theorem G5_ok:GlobOk Try.prog G5:=G4_ok.add ⟨Try.f97,Try.func97,by kernel_rfl,by kernel_rfl⟩ v69
def vwq:Nat→Option LoopSpec
 |_=>none
theorem v6f:vab Try.prog 76 v4a:=
 va4 G5_ok.shallow follows (Try.f76.body.getD .skip) Try.func76 (by kernel_rfl) fun p q=>⟨vwq,n48n_p.p.map _,by rw [vz1];kernel_rfl,vaa (ids:=[]) (by kernel_rfl) (by kernel_rfl) trivial⟩
def G6:Glob:=G5.add 76 v4a
theorem G6_ok:GlobOk Try.prog G6:=G5_ok.add ⟨Try.f76,Try.func76,by kernel_rfl,by kernel_rfl⟩ v6f
def vtq:(Int×Int×(List ByteArray))→List AV:=fun x=>[.i x.1,.bp 0 0,.bp 1 0,.i x.2.1]
def vsy:(Int×Int×(List ByteArray))→St:=fun x=>[.box [.nilS,.nilS],.box [.own 2,.nilS],.arr .str x.2.2]
def vnv:Nat→Option LoopSpec
 |0=>some (lpS [0,2,4,5] [none,none,none,none,none,none,some .str] [.i,.bp 0 0,.bp 1 0,.i] [.box [.nilS,.nilS],.box [.own 2,.nilS],.arr .str] vf9 (fun p q=>(p.1,p.2.2.2.1,q.2.2.1)) (fun k=>(onE (exZ (.exit 0) vtq vsy) k)))
 |3000000=>some ⟨[],[some .str],fun _ _ _=>none⟩
 |_=>none
theorem v1a:LpAt G6.shallow ⟨0,23,vnv⟩ Try.f57 0:=
 vbf rfl (fun x=>(n42n_bp0 x).p) vtq vsy (exZ (.exit 0) vtq vsy) (fun _ _=>⟨rfl,rfl⟩) (fun z=>by(intro h;cases h)) (fun _ _=>rfl) (fun x=>by kernel_rfl)
theorem v60:vab Try.prog 57 v27:=
 va4 G6_ok.shallow follows (Try.f57.body.getD .skip) Try.func57 (by kernel_rfl) fun p q=>⟨vnv,(n42n_p _).p.map _,by rw [vzm];kernel_rfl,vaa (ids:=[0]) (by kernel_rfl) (by kernel_rfl) ⟨v1a,trivial⟩⟩
def G7:Glob:=G6.add 57 v27
theorem G7_ok:GlobOk Try.prog G7:=G6_ok.add ⟨Try.f57,Try.func57,by kernel_rfl,by kernel_rfl⟩ v60
def vwx:Nat→Option LoopSpec
 |_=>none
theorem v5q:vab Try.prog 41 v2y:=
 va4 G7_ok.shallow follows (Try.f41.body.getD .skip) Try.func41 (by kernel_rfl) fun p q=>⟨vwx,n44n_p.p.map _,by rw [vx3];kernel_rfl,vaa (ids:=[]) (by kernel_rfl) (by kernel_rfl) trivial⟩
def G8:Glob:=G7.add 41 v2y
theorem G8_ok:GlobOk Try.prog G8:=G7_ok.add ⟨Try.f41,Try.func41,by kernel_rfl,by kernel_rfl⟩ v5q
def vww:Nat→Option LoopSpec
 |_=>none
theorem v6k:vab Try.prog 19 v33:=
 va4 G8_ok.shallow follows (Try.f19.body.getD .skip) Try.func19 (by kernel_rfl) fun p q=>⟨vww,n45n_p.p.map _,by rw [vzk];kernel_rfl,vaa (ids:=[]) (by kernel_rfl) (by kernel_rfl) trivial⟩
def G9:Glob:=G8.add 19 v33
theorem G9_ok:GlobOk Try.prog G9:=G8_ok.add ⟨Try.f19,Try.func19,by kernel_rfl,by kernel_rfl⟩ v6k
def vw3:Nat→Option LoopSpec
 |_=>none
theorem v50:vab Try.prog 59 v3w:=
 va4 G9_ok follows (Try.f59.body.getD .skip) Try.func59 (by kernel_rfl) fun p q=>⟨vw3,n00n_p.p.map _,by rw [vz5];kernel_rfl,vaa (ids:=[]) (by kernel_rfl) (by kernel_rfl) trivial⟩
def G10:Glob:=G9.add 59 v3w
theorem G10_ok:GlobOk Try.prog G10:=G9_ok.add ⟨Try.f59,Try.func59,by kernel_rfl,by kernel_rfl⟩ v50
def vwc:Nat→Option LoopSpec
 |_=>none
theorem v6u:vab Try.prog 42 v3i:=
 va4 G10_ok follows (Try.f42.body.getD .skip) Try.func42 (by kernel_rfl) fun p q=>⟨vwc,n02n_p.p.map _,by rw [vy9];kernel_rfl,vaa (ids:=[]) (by kernel_rfl) (by kernel_rfl) trivial⟩
def G11:Glob:=G10.add 42 v3i
theorem G11_ok:GlobOk Try.prog G11:=G10_ok.add ⟨Try.f42,Try.func42,by kernel_rfl,by kernel_rfl⟩ v6u
def vw8:Nat→Option LoopSpec
 |_=>none
theorem v5k:vab Try.prog 77 v3e:=
 va4 G11_ok follows (Try.f77.body.getD .skip) Try.func77 (by kernel_rfl) fun p q=>⟨vw8,(n05n_p _ _ _).p.map _,by rw [vyk];kernel_rfl,vaa (ids:=[]) (by kernel_rfl) (by kernel_rfl) trivial⟩
def G12:Glob:=G11.add 77 v3e
theorem G12_ok:GlobOk Try.prog G12:=G11_ok.add ⟨Try.f77,Try.func77,by kernel_rfl,by kernel_rfl⟩ v5k
theorem v5s:vab Try.prog 78 vyi:=by
 intro args s k r hk
 unfold vyi at hk
 rw [vza]at hk
 unfold vq0 at hk
 have e:Try.laysRepeat_ren.f 105=78:=by kernel_rfl
 exact e▸vkc Try.laysRepeat Try.repExtra args s k r hk
def G13:Glob:=G12.add 78 vyi
theorem G13_ok:GlobOk Try.prog G13:=G12_ok.add ⟨Try.f78,Try.func78,by kernel_rfl,by kernel_rfl⟩ v5s
def vsh:(Int×Int×(List ByteArray))→List AV:=fun x=>[.i x.1,.bp 0 0,.bp 1 0,.i x.2.1]
def vsn:(Int×Int×(List ByteArray))→St:=fun x=>[.box [.nilS,.nilS],.box [.own 2,.nilS],.arr .str x.2.2]
def vm9:Nat→Option LoopSpec
 |0=>some (lpS [0,2,4,5] [none,none,none,none,none,none,some .str] [.i,.bp 0 0,.bp 1 0,.i] [.box [.nilS,.nilS],.box [.own 2,.nilS],.arr .str] vfg (fun p q=>(p.1,p.2.2.2.1,q.2.2.1)) (fun k=>(onE (exZ (.exit 0) vsh vsn) k)))
 |3000000=>some ⟨[],[some .str],fun _ _ _=>none⟩
 |_=>none
theorem v2p:LpAt G13 ⟨0,22,vm9⟩ Try.f60 0:=
 vbf rfl (fun x=>(n01n_bp0 x).p) vsh vsn (exZ (.exit 0) vsh vsn) (fun _ _=>⟨rfl,rfl⟩) (fun z=>by(intro h;cases h)) (fun _ _=>rfl) (fun x=>by kernel_rfl)
theorem v5x:vab Try.prog 60 v3v:=
 va4 G13_ok follows (Try.f60.body.getD .skip) Try.func60 (by kernel_rfl) fun p q=>⟨vm9,(n01n_p _).p.map _,by rw [vy0];kernel_rfl,vaa (ids:=[0]) (by kernel_rfl) (by kernel_rfl) ⟨v2p,trivial⟩⟩
def G14:Glob:=G13.add 60 v3v
theorem G14_ok:GlobOk Try.prog G14:=G13_ok.add ⟨Try.f60,Try.func60,by kernel_rfl,by kernel_rfl⟩ v5x
def vxg:Nat→Option LoopSpec
 |_=>none
theorem v6z:vab Try.prog 43 v3p:=
 va4 G14_ok follows (Try.f43.body.getD .skip) Try.func43 (by kernel_rfl) fun p q=>⟨vxg,n03n_p.p.map _,by rw [vzl];kernel_rfl,vaa (ids:=[]) (by kernel_rfl) (by kernel_rfl) trivial⟩
def G15:Glob:=G14.add 43 v3p
theorem G15_ok:GlobOk Try.prog G15:=G14_ok.add ⟨Try.f43,Try.func43,by kernel_rfl,by kernel_rfl⟩ v6z
def vxa:Nat→Option LoopSpec
 |_=>none
theorem v5r:vab Try.prog 20 v2s:=
 va4 G15_ok follows (Try.f20.body.getD .skip) Try.func20 (by kernel_rfl) fun p q=>⟨vxa,n04n_p.p.map _,by rw [v0g];kernel_rfl,vaa (ids:=[]) (by kernel_rfl) (by kernel_rfl) trivial⟩
def G16:Glob:=G15.add 20 v2s
theorem G16_ok:GlobOk Try.prog G16:=G15_ok.add ⟨Try.f20,Try.func20,by kernel_rfl,by kernel_rfl⟩ v5r
def vxo:Nat→Option LoopSpec
 |_=>none
theorem v6g:vab Try.prog 32 v3n:=
 va4 G16_ok follows (Try.f32.body.getD .skip) Try.func32 (by kernel_rfl) fun p q=>⟨vxo,(n18n_p _ _).p.map _,by rw [vy1];kernel_rfl,vaa (ids:=[]) (by kernel_rfl) (by kernel_rfl) trivial⟩
def G17:Glob:=G16.add 32 v3n
theorem G17_ok:GlobOk Try.prog G17:=G16_ok.add ⟨Try.f32,Try.func32,by kernel_rfl,by kernel_rfl⟩ v6g
def vkv:q8T→List AV:=fun x=>[.lst tVersion x.1,.lst tVersion x.2.1,.bool x.2.2.1,.i x.2.2.2]
def vkb:q8T→St:=fun x=>[]
def vm3:Nat→Option LoopSpec
 |0=>some (lpS [0,1,4,5] [] [.lst tVersion,.lst tVersion,.bool,.i] [] vgd (fun p q=>(p.1,p.2.1,p.2.2.1,p.2.2.2.1)) (fun k=>(Sum.elim (onE (exZ .ret vkv vkb) k) (onE (exZ (.exit 0) vkv vkb) k))))
 |2000006=>some ⟨[0,2,4,6,8,10,12,14,16,18],[],fun _ _ _=>none⟩
 |_=>none
theorem v18:LpAt G17 ⟨0,27,vm3⟩ Try.f13 0:=
 vbf rfl (fun x=>(n19n_bp0 x).p) vkv vkb (Sum.elim ((exZ .ret vkv vkb)) ((exZ (.exit 0) vkv vkb))) (fun _ _=>⟨rfl,rfl⟩) (fun z=>by rcases z with z|z<;>(intro h;cases h)) (fun k z=>by rcases z with z|z<;>rfl) (fun x=>by kernel_rfl)
theorem v6i:vab Try.prog 13 v2z:=
 va4 G17_ok follows (Try.f13.body.getD .skip) Try.func13 (by kernel_rfl) fun p q=>⟨vm3,(n19n_p _ _).p.map _,by rw [vyz];kernel_rfl,vaa (ids:=[0]) (by kernel_rfl) (by kernel_rfl) ⟨v18,trivial⟩⟩
def G18:Glob:=G17.add 13 v2z
theorem G18_ok:GlobOk Try.prog G18:=G17_ok.add ⟨Try.f13,Try.func13,by kernel_rfl,by kernel_rfl⟩ v6i
def vwi:Nat→Option LoopSpec
 |_=>none
theorem v5y:vab Try.prog 117 v23:=
 va4 G18_ok follows (Try.f117.body.getD .skip) Try.func117 (by kernel_rfl) fun p q=>⟨vwi,(n12n_p _ _).p.map _,by rw [vzu];kernel_rfl,vaa (ids:=[]) (by kernel_rfl) (by kernel_rfl) trivial⟩
def G19:Glob:=G18.add 117 v23
theorem G19_ok:GlobOk Try.prog G19:=G18_ok.add ⟨Try.f117,Try.func117,by kernel_rfl,by kernel_rfl⟩ v5y
def vlg:q4T→List AV:=fun x=>[.lst tRange x.1,.lst tRange x.2.1,.bool x.2.2.1,.i x.2.2.2]
def vmb:q4T→St:=fun x=>[]
def vmp:Nat→Option LoopSpec
 |0=>some (lpS [0,1,4,5] [] [.lst tRange,.lst tRange,.bool,.i] [] vfy (fun p q=>(p.1,p.2.1,p.2.2.1,p.2.2.2.1)) (fun k=>(Sum.elim (onE (exZ .ret vlg vmb) k) (onE (exZ (.exit 0) vlg vmb) k))))
 |2000006=>some ⟨[0,2,4,6,8,10,12,14,16,18],[],fun _ _ _=>none⟩
 |_=>none
theorem v2m:LpAt G19 ⟨0,27,vmp⟩ Try.f104 0:=
 vbf rfl (fun x=>(n13n_bp0 x).p) vlg vmb (Sum.elim ((exZ .ret vlg vmb)) ((exZ (.exit 0) vlg vmb))) (fun _ _=>⟨rfl,rfl⟩) (fun z=>by rcases z with z|z<;>(intro h;cases h)) (fun k z=>by rcases z with z|z<;>rfl) (fun x=>by kernel_rfl)
theorem v6w:vab Try.prog 104 v32:=
 va4 G19_ok follows (Try.f104.body.getD .skip) Try.func104 (by kernel_rfl) fun p q=>⟨vmp,(n13n_p _ _).p.map _,by rw [vy8];kernel_rfl,vaa (ids:=[0]) (by kernel_rfl) (by kernel_rfl) ⟨v2m,trivial⟩⟩
def G20:Glob:=G19.add 104 v32
theorem G20_ok:GlobOk Try.prog G20:=G19_ok.add ⟨Try.f104,Try.func104,by kernel_rfl,by kernel_rfl⟩ v6w
def vw6:Nat→Option LoopSpec
 |_=>none
theorem v5e:vab Try.prog 118 v2x:=
 va4 G20_ok follows (Try.f118.body.getD .skip) Try.func118 (by kernel_rfl) fun p q=>⟨vw6,(n20n_p _ _).p.map _,by rw [vxy];kernel_rfl,vaa (ids:=[]) (by kernel_rfl) (by kernel_rfl) trivial⟩
def G21:Glob:=G20.add 118 v2x
theorem G21_ok:GlobOk Try.prog G21:=G20_ok.add ⟨Try.f118,Try.func118,by kernel_rfl,by kernel_rfl⟩ v5e
def vk6:q10T→List AV:=fun x=>[.lst tWrite x.1,.lst tWrite x.2.1,.bool x.2.2.1,.i x.2.2.2]
def vke:q10T→St:=fun x=>[]
def vnu:Nat→Option LoopSpec
 |0=>some (lpS [0,1,4,5] [] [.lst tWrite,.lst tWrite,.bool,.i] [] vfn (fun p q=>(p.1,p.2.1,p.2.2.1,p.2.2.2.1)) (fun k=>(Sum.elim (onE (exZ .ret vk6 vke) k) (onE (exZ (.exit 0) vk6 vke) k))))
 |2000006=>some ⟨[0,2,4,6,8,10,12,14,16,18],[],fun _ _ _=>none⟩
 |_=>none
theorem v10:LpAt G21 ⟨0,27,vnu⟩ Try.f105 0:=
 vbf rfl (fun x=>(n21n_bp0 x).p) vk6 vke (Sum.elim ((exZ .ret vk6 vke)) ((exZ (.exit 0) vk6 vke))) (fun _ _=>⟨rfl,rfl⟩) (fun z=>by rcases z with z|z<;>(intro h;cases h)) (fun k z=>by rcases z with z|z<;>rfl) (fun x=>by kernel_rfl)
theorem v64:vab Try.prog 105 v30:=
 va4 G21_ok follows (Try.f105.body.getD .skip) Try.func105 (by kernel_rfl) fun p q=>⟨vnu,(n21n_p _ _).p.map _,by rw [vyc];kernel_rfl,vaa (ids:=[0]) (by kernel_rfl) (by kernel_rfl) ⟨v10,trivial⟩⟩
def G22:Glob:=G21.add 105 v30
theorem G22_ok:GlobOk Try.prog G22:=G21_ok.add ⟨Try.f105,Try.func105,by kernel_rfl,by kernel_rfl⟩ v64
def vws:Nat→Option LoopSpec
 |_=>none
theorem v6x:vab Try.prog 79 v28:=
 va4 G22_ok follows (Try.f79.body.getD .skip) Try.func79 (by kernel_rfl) fun p q=>⟨vws,(n16n_p _ _).p.map _,by rw [vzx];kernel_rfl,vaa (ids:=[]) (by kernel_rfl) (by kernel_rfl) trivial⟩
def G23:Glob:=G22.add 79 v28
theorem G23_ok:GlobOk Try.prog G23:=G22_ok.add ⟨Try.f79,Try.func79,by kernel_rfl,by kernel_rfl⟩ v6x
def vmc:q6T→List AV:=fun x=>[.lst tTxn x.1,.lst tTxn x.2.1,.bool x.2.2.1,.i x.2.2.2]
def vl2:q6T→St:=fun x=>[]
def vnp:Nat→Option LoopSpec
 |0=>some (lpS [0,1,4,5] [] [.lst tTxn,.lst tTxn,.bool,.i] [] vfh (fun p q=>(p.1,p.2.1,p.2.2.1,p.2.2.2.1)) (fun k=>(Sum.elim (onE (exZ .ret vmc vl2) k) (onE (exZ (.exit 0) vmc vl2) k))))
 |2000006=>some ⟨[0,2,4,6,8,10,12,14,16,18],[],fun _ _ _=>none⟩
 |_=>none
theorem v04:LpAt G23 ⟨0,27,vnp⟩ Try.f62 0:=
 vbf rfl (fun x=>(n17n_bp0 x).p) vmc vl2 (Sum.elim ((exZ .ret vmc vl2)) ((exZ (.exit 0) vmc vl2))) (fun _ _=>⟨rfl,rfl⟩) (fun z=>by rcases z with z|z<;>(intro h;cases h)) (fun k z=>by rcases z with z|z<;>rfl) (fun x=>by kernel_rfl)
theorem v63:vab Try.prog 62 v22:=
 va4 G23_ok follows (Try.f62.body.getD .skip) Try.func62 (by kernel_rfl) fun p q=>⟨vnp,(n17n_p _ _).p.map _,by rw [vz4];kernel_rfl,vaa (ids:=[0]) (by kernel_rfl) (by kernel_rfl) ⟨v04,trivial⟩⟩
def G24:Glob:=G23.add 62 v22
theorem G24_ok:GlobOk Try.prog G24:=G23_ok.add ⟨Try.f62,Try.func62,by kernel_rfl,by kernel_rfl⟩ v63
def vxb:Nat→Option LoopSpec
 |_=>none
theorem v5w:vab Try.prog 61 v3l:=
 va4 G24_ok follows (Try.f61.body.getD .skip) Try.func61 (by kernel_rfl) fun p q=>⟨vxb,(n07n_p _ _).p.map _,by rw [v0i];kernel_rfl,vaa (ids:=[]) (by kernel_rfl) (by kernel_rfl) trivial⟩
def G25:Glob:=G24.add 61 v3l
theorem G25_ok:GlobOk Try.prog G25:=G24_ok.add ⟨Try.f61,Try.func61,by kernel_rfl,by kernel_rfl⟩ v5w
def vwy:Nat→Option LoopSpec
 |_=>none
theorem v5i:vab Try.prog 44 v3k:=
 va4 G25_ok follows (Try.f44.body.getD .skip) Try.func44 (by kernel_rfl) fun p q=>⟨vwy,(n09n_p _ _).p.map _,by rw [vzi];kernel_rfl,vaa (ids:=[]) (by kernel_rfl) (by kernel_rfl) trivial⟩
def G26:Glob:=G25.add 44 v3k
theorem G26_ok:GlobOk Try.prog G26:=G25_ok.add ⟨Try.f44,Try.func44,by kernel_rfl,by kernel_rfl⟩ v5i
def vlw:q0T→List AV:=fun x=>[.lst .str x.1,.lst .str x.2.1,.bool x.2.2.1,.i x.2.2.2]
def vk1:q0T→St:=fun x=>[]
def vnl:Nat→Option LoopSpec
 |0=>some (lpS [0,1,4,5] [] [.lst .str,.lst .str,.bool,.i] [] vfv (fun p q=>(p.1,p.2.1,p.2.2.1,p.2.2.2.1)) (fun k=>(Sum.elim (onE (exZ .ret vlw vk1) k) (onE (exZ (.exit 0) vlw vk1) k))))
 |2000006=>some ⟨[0,2,4,6,8,10,12,14,16],[],fun _ _ _=>none⟩
 |_=>none
theorem v0v:LpAt G26 ⟨0,26,vnl⟩ Try.f63 0:=
 vbf rfl (fun x=>(n15n_bp0 x).p) vlw vk1 (Sum.elim ((exZ .ret vlw vk1)) ((exZ (.exit 0) vlw vk1))) (fun _ _=>⟨rfl,rfl⟩) (fun z=>by rcases z with z|z<;>(intro h;cases h)) (fun k z=>by rcases z with z|z<;>rfl) (fun x=>by kernel_rfl)
theorem v5v:vab Try.prog 63 v35:=
 va4 G26_ok follows (Try.f63.body.getD .skip) Try.func63 (by kernel_rfl) fun p q=>⟨vnl,(n15n_p _ _).p.map _,by rw [vze];kernel_rfl,vaa (ids:=[0]) (by kernel_rfl) (by kernel_rfl) ⟨v0v,trivial⟩⟩
def G27:Glob:=G26.add 63 v35
theorem G27_ok:GlobOk Try.prog G27:=G26_ok.add ⟨Try.f63,Try.func63,by kernel_rfl,by kernel_rfl⟩ v5v
def vxe:Nat→Option LoopSpec
 |_=>none
theorem v5l:vab Try.prog 80 v36:=
 va4 G27_ok follows (Try.f80.body.getD .skip) Try.func80 (by kernel_rfl) fun p q=>⟨vxe,(n10n_p _ _).p.map _,by rw [v3x];kernel_rfl,vaa (ids:=[]) (by kernel_rfl) (by kernel_rfl) trivial⟩
def G28:Glob:=G27.add 80 v36
theorem G28_ok:GlobOk Try.prog G28:=G27_ok.add ⟨Try.f80,Try.func80,by kernel_rfl,by kernel_rfl⟩ v5l
def vlh:q2T→List AV:=fun x=>[.lst tPut x.1,.lst tPut x.2.1,.bool x.2.2.1,.i x.2.2.2]
def vks:q2T→St:=fun x=>[]
def vnt:Nat→Option LoopSpec
 |0=>some (lpS [0,1,4,5] [] [.lst tPut,.lst tPut,.bool,.i] [] vga (fun p q=>(p.1,p.2.1,p.2.2.1,p.2.2.2.1)) (fun k=>(Sum.elim (onE (exZ .ret vlh vks) k) (onE (exZ (.exit 0) vlh vks) k))))
 |2000006=>some ⟨[0,2,4,6,8,10,12,14,16,18],[],fun _ _ _=>none⟩
 |_=>none
theorem v2b:LpAt G28 ⟨0,27,vnt⟩ Try.f64 0:=
 vbf rfl (fun x=>(n11n_bp0 x).p) vlh vks (Sum.elim ((exZ .ret vlh vks)) ((exZ (.exit 0) vlh vks))) (fun _ _=>⟨rfl,rfl⟩) (fun z=>by rcases z with z|z<;>(intro h;cases h)) (fun k z=>by rcases z with z|z<;>rfl) (fun x=>by kernel_rfl)
theorem v66:vab Try.prog 64 v3g:=
 va4 G28_ok follows (Try.f64.body.getD .skip) Try.func64 (by kernel_rfl) fun p q=>⟨vnt,(n11n_p _ _).p.map _,by rw [vye];kernel_rfl,vaa (ids:=[0]) (by kernel_rfl) (by kernel_rfl) ⟨v2b,trivial⟩⟩
def G29:Glob:=G28.add 64 v3g
theorem G29_ok:GlobOk Try.prog G29:=G28_ok.add ⟨Try.f64,Try.func64,by kernel_rfl,by kernel_rfl⟩ v66
def vxp:Nat→Option LoopSpec
 |_=>none
theorem v5g:vab Try.prog 45 v3b:=
 va4 G29_ok follows (Try.f45.body.getD .skip) Try.func45 (by kernel_rfl) fun p q=>⟨vxp,(n08n_p _ _).p.map _,by rw [vyg];kernel_rfl,vaa (ids:=[]) (by kernel_rfl) (by kernel_rfl) trivial⟩
def G30:Glob:=G29.add 45 v3b
theorem G30_ok:GlobOk Try.prog G30:=G29_ok.add ⟨Try.f45,Try.func45,by kernel_rfl,by kernel_rfl⟩ v5g
def vwr:Nat→Option LoopSpec
 |_=>none
theorem v57:vab Try.prog 21 v2r:=
 va4 G30_ok follows (Try.f21.body.getD .skip) Try.func21 (by kernel_rfl) fun p q=>⟨vwr,(n14n_p _ _).p.map _,by rw [vzf];kernel_rfl,vaa (ids:=[]) (by kernel_rfl) (by kernel_rfl) trivial⟩
def G31:Glob:=G30.add 21 v2r
theorem G31_ok:GlobOk Try.prog G31:=G30_ok.add ⟨Try.f21,Try.func21,by kernel_rfl,by kernel_rfl⟩ v57
def vsv:(Int×ByteArray)→List AV:=fun x=>[.i x.1,.str x.2]
def vsi:(Int×ByteArray)→St:=fun x=>[]
def vn7:Nat→Option LoopSpec
 |0=>some (lpS [0,3] [] [.i,.str] [] vhs (fun p q=>(p.1,p.2.1)) (fun k=>(onE (exZ (.exit 0) vsv vsi) k)))
 |_=>none
theorem v1p:LpAt G31 ⟨0,20,vn7⟩ Try.f33 0:=
 vbf rfl (fun x=>(n38n_bp0 x).p) vsv vsi (exZ (.exit 0) vsv vsi) (fun _ _=>⟨rfl,rfl⟩) (fun z=>by(intro h;cases h)) (fun _ _=>rfl) (fun x=>by kernel_rfl)
theorem v6c:vab Try.prog 33 v3j:=
 va4 G31_ok follows (Try.f33.body.getD .skip) Try.func33 (by kernel_rfl) fun p q=>⟨vn7,(n38n_p _).p.map _,by rw [v0f];kernel_rfl,vaa (ids:=[0]) (by kernel_rfl) (by kernel_rfl) ⟨v1p,trivial⟩⟩
def G32:Glob:=G31.add 33 v3j
theorem G32_ok:GlobOk Try.prog G32:=G31_ok.add ⟨Try.f33,Try.func33,by kernel_rfl,by kernel_rfl⟩ v6c
def vtg:(Int×Int)→List AV:=fun x=>[.nilS,.i x.1,.i x.2]
def vtc:(Int×Int)→St:=fun x=>[]
def vnh:Nat→Option LoopSpec
 |0=>some (lpS [0,1,5] [] [.nilS,.i,.i] [] vlj (fun p q=>(p.2.1,p.2.2.1)) (fun k=>(onE (exZ (.exit 0) vtg vtc) k)))
 |_=>none
theorem v16:LpAt G32 ⟨0,45,vnh⟩ Try.f14 0:=
 vbf rfl (fun x=>(n40n_bp0 x).p) vtg vtc (exZ (.exit 0) vtg vtc) (fun _ _=>⟨rfl,rfl⟩) (fun z=>by(intro h;cases h)) (fun _ _=>rfl) (fun x=>by kernel_rfl)
theorem vhv:vab Try.prog 14 vdq:=
 va4 G32_ok follows (Try.f14.body.getD .skip) Try.func14 (by kernel_rfl) fun p q=>⟨vnh,(n40n_p _).p.map _,by rw [vyp];kernel_rfl,vaa (ids:=[0]) (by kernel_rfl) (by kernel_rfl) ⟨v16,trivial⟩⟩
def G33:Glob:=G32.add 14 vdq
theorem G33_ok:GlobOk Try.prog G33:=G32_ok.add ⟨Try.f14,Try.func14,by kernel_rfl,by kernel_rfl⟩ vhv
def vtr:(Int×Int)→List AV:=fun x=>[.nilS,.i x.1,.i x.2]
def vst:(Int×Int)→St:=fun x=>[]
def vn0:Nat→Option LoopSpec
 |0=>some (lpS [0,1,5] [] [.nilS,.i,.i] [] vma (fun p q=>(p.2.1,p.2.2.1)) (fun k=>(onE (exZ (.exit 0) vtr vst) k)))
 |_=>none
theorem v2g:LpAt G33 ⟨0,72,vn0⟩ Try.f66 0:=
 vbf rfl (fun x=>(n39n_bp0 x).p) vtr vst (exZ (.exit 0) vtr vst) (fun _ _=>⟨rfl,rfl⟩) (fun z=>by(intro h;cases h)) (fun _ _=>rfl) (fun x=>by kernel_rfl)
theorem vla:vab Try.prog 66 vf4:=
 va4 G33_ok follows (Try.f66.body.getD .skip) Try.func66 (by kernel_rfl) fun p q=>⟨vn0,(n39n_p _).p.map _,by rw [v0k];kernel_rfl,vaa (ids:=[0]) (by kernel_rfl) (by kernel_rfl) ⟨v2g,trivial⟩⟩
def G34:Glob:=G33.add 66 vf4
theorem G34_ok:GlobOk Try.prog G34:=G33_ok.add ⟨Try.f66,Try.func66,by kernel_rfl,by kernel_rfl⟩ vla
def vxi:Nat→Option LoopSpec
 |_=>none
theorem vl4:vab Try.prog 65 vf1:=
 va4 G34_ok follows (Try.f65.body.getD .skip) Try.func65 (by kernel_rfl) fun p q=>⟨vxi,(n32n_p _ _ _).p.map _,by rw [vys];kernel_rfl,vaa (ids:=[]) (by kernel_rfl) (by kernel_rfl) trivial⟩
def G35:Glob:=G34.add 65 vf1
theorem G35_ok:GlobOk Try.prog G35:=G34_ok.add ⟨Try.f65,Try.func65,by kernel_rfl,by kernel_rfl⟩ vl4
def vw2:Nat→Option LoopSpec
 |_=>none
theorem viv:vab Try.prog 46 veh:=
 va4 G35_ok follows (Try.f46.body.getD .skip) Try.func46 (by kernel_rfl) fun p q=>⟨vw2,(n34n_p _ _ _).p.map _,by rw [vxt];kernel_rfl,vaa (ids:=[]) (by kernel_rfl) (by kernel_rfl) trivial⟩
def G36:Glob:=G35.add 46 veh
theorem G36_ok:GlobOk Try.prog G36:=G35_ok.add ⟨Try.f46,Try.func46,by kernel_rfl,by kernel_rfl⟩ viv
def vso:(Int×Int×(List ByteArray))→List AV:=fun x=>[.own 0,.i x.1,.i x.2.1]
def vtj:(Int×Int×(List ByteArray))→St:=fun x=>[.arr .str x.2.2]
def voa:Nat→Option LoopSpec
 |0=>some (lpS [0,1,5] [] [.own 0,.i,.i] [.arr .str] vhw (fun p q=>(p.2.1,p.2.2.1,q.1)) (fun k=>(onE (exZ (.exit 0) vso vtj) k)))
 |_=>none
theorem v02:LpAt G36 ⟨1,20,voa⟩ Try.f67 0:=
 vbf rfl (fun x=>(n37n_bp0 x).p) vso vtj (exZ (.exit 0) vso vtj) (fun _ _=>⟨rfl,rfl⟩) (fun z=>by(intro h;cases h)) (fun _ _=>rfl) (fun x=>by kernel_rfl)
theorem vii:vab Try.prog 67 vd1:=
 va4 G36_ok follows (Try.f67.body.getD .skip) Try.func67 (by kernel_rfl) fun p q=>⟨voa,(n37n_p _ _).p.map _,by rw [v0p];kernel_rfl,vaa (ids:=[0]) (by kernel_rfl) (by kernel_rfl) ⟨v02,trivial⟩⟩
def G37:Glob:=G36.add 67 vd1
theorem G37_ok:GlobOk Try.prog G37:=G36_ok.add ⟨Try.f67,Try.func67,by kernel_rfl,by kernel_rfl⟩ vii
def vtd:(Int×Int)→List AV:=fun x=>[.nilS,.i x.1,.i x.2]
def vs5:(Int×Int)→St:=fun x=>[]
def vna:Nat→Option LoopSpec
 |0=>some (lpS [0,1,5] [] [.nilS,.i,.i] [] vlu (fun p q=>(p.2.1,p.2.2.1)) (fun k=>(onE (exZ (.exit 0) vtd vs5) k)))
 |_=>none
theorem v1m:LpAt G37 ⟨0,28,vna⟩ Try.f68 0:=
 vbf rfl (fun x=>(n35n_bp0 x).p) vtd vs5 (exZ (.exit 0) vtd vs5) (fun _ _=>⟨rfl,rfl⟩) (fun z=>by(intro h;cases h)) (fun _ _=>rfl) (fun x=>by kernel_rfl)
theorem vlr:vab Try.prog 68 vfu:=
 va4 G37_ok follows (Try.f68.body.getD .skip) Try.func68 (by kernel_rfl) fun p q=>⟨vna,(n35n_p _).p.map _,by rw [vyj];kernel_rfl,vaa (ids:=[0]) (by kernel_rfl) (by kernel_rfl) ⟨v1m,trivial⟩⟩
def G38:Glob:=G37.add 68 vfu
theorem G38_ok:GlobOk Try.prog G38:=G37_ok.add ⟨Try.f68,Try.func68,by kernel_rfl,by kernel_rfl⟩ vlr
def vw1:Nat→Option LoopSpec
 |_=>none
theorem vlz:vab Try.prog 47 vgc:=
 va4 G38_ok follows (Try.f47.body.getD .skip) Try.func47 (by kernel_rfl) fun p q=>⟨vw1,(n33n_p _ _).p.map _,by rw [vyr];kernel_rfl,vaa (ids:=[]) (by kernel_rfl) (by kernel_rfl) trivial⟩
def G39:Glob:=G38.add 47 vgc
theorem G39_ok:GlobOk Try.prog G39:=G38_ok.add ⟨Try.f47,Try.func47,by kernel_rfl,by kernel_rfl⟩ vlz
def vxm:Nat→Option LoopSpec
 |_=>none
theorem vj0:vab Try.prog 22 vfb:=
 va4 G39_ok follows (Try.f22.body.getD .skip) Try.func22 (by kernel_rfl) fun p q=>⟨vxm,(n36n_p _ _ _ _).p.map _,by rw [vy7];kernel_rfl,vaa (ids:=[]) (by kernel_rfl) (by kernel_rfl) trivial⟩
def G40:Glob:=G39.add 22 vfb
theorem G40_ok:GlobOk Try.prog G40:=G39_ok.add ⟨Try.f22,Try.func22,by kernel_rfl,by kernel_rfl⟩ vj0
def vkp:q9T→List AV:=fun x=>[.lst tVersion x.1,.i x.2.1,.i x.2.2.1,.i x.2.2.2]
def vkd:q9T→St:=fun x=>[]
def vm0:Nat→Option LoopSpec
 |0=>some (lpS [0,1,4,5] [] [.lst tVersion,.i,.i,.i] [] vft (fun p q=>(p.1,p.2.1,p.2.2.1,p.2.2.2.1)) (fun k=>(Sum.elim (onE (exZ .ret vkp vkd) k) (onE (exZ (.exit 0) vkp vkd) k))))
 |2000004=>some ⟨[0,2,4,6,8,10,13,14],[],fun _ _ _=>none⟩
 |2000007=>some ⟨[0,2,4,6,8,10,13,14],[],fun _ _ _=>none⟩
 |_=>none
theorem v2q:LpAt G40 ⟨0,53,vm0⟩ Try.f83 0:=
 vbf rfl (fun x=>(n30n_bp0 x).p) vkp vkd (Sum.elim ((exZ .ret vkp vkd)) ((exZ (.exit 0) vkp vkd))) (fun _ _=>⟨rfl,rfl⟩) (fun z=>by rcases z with z|z<;>(intro h;cases h)) (fun k z=>by rcases z with z|z<;>rfl) (fun x=>by kernel_rfl)
theorem v67:vab Try.prog 83 v24:=
 va4 G40_ok follows (Try.f83.body.getD .skip) Try.func83 (by kernel_rfl) fun p q=>⟨vm0,(n30n_p _ _).p.map _,by rw [vx9];kernel_rfl,vaa (ids:=[0]) (by kernel_rfl) (by kernel_rfl) ⟨v2q,trivial⟩⟩
def G41:Glob:=G40.add 83 v24
theorem G41_ok:GlobOk Try.prog G41:=G40_ok.add ⟨Try.f83,Try.func83,by kernel_rfl,by kernel_rfl⟩ v67
def vlo:q5T→List AV:=fun x=>[.lst tRange x.1,.i x.2.1,.i x.2.2.1,.i x.2.2.2]
def vk2:q5T→St:=fun x=>[]
def vmy:Nat→Option LoopSpec
 |0=>some (lpS [0,1,4,5] [] [.lst tRange,.i,.i,.i] [] vos (fun p q=>(p.1,p.2.1,p.2.2.1,p.2.2.2.1)) (fun k=>(Sum.elim (onE (exZ .ret vlo vk2) k) (onE (exZ (.exit 0) vlo vk2) k))))
 |2000004=>some ⟨[0,2,4,6,8,10,13,14],[],fun _ _ _=>none⟩
 |2000007=>some ⟨[0,2,4,6,8,10,13,14],[],fun _ _ _=>none⟩
 |_=>none
theorem v1c:LpAt G41 ⟨0,33,vmy⟩ Try.f84 0:=
 vbf rfl (fun x=>(n26n_bp0 x).p) vlo vk2 (Sum.elim ((exZ .ret vlo vk2)) ((exZ (.exit 0) vlo vk2))) (fun _ _=>⟨rfl,rfl⟩) (fun z=>by rcases z with z|z<;>(intro h;cases h)) (fun k z=>by rcases z with z|z<;>rfl) (fun x=>by kernel_rfl)
theorem v56:vab Try.prog 84 v21:=
 va4 G41_ok follows (Try.f84.body.getD .skip) Try.func84 (by kernel_rfl) fun p q=>⟨vmy,(n26n_p _ _).p.map _,by rw [v2v];kernel_rfl,vaa (ids:=[0]) (by kernel_rfl) (by kernel_rfl) ⟨v1c,trivial⟩⟩
def G42:Glob:=G41.add 84 v21
theorem G42_ok:GlobOk Try.prog G42:=G41_ok.add ⟨Try.f84,Try.func84,by kernel_rfl,by kernel_rfl⟩ v56
def vlf:q11T→List AV:=fun x=>[.lst tWrite x.1,.i x.2.1,.i x.2.2.1,.i x.2.2.2]
def vkf:q11T→St:=fun x=>[]
def vnj:Nat→Option LoopSpec
 |0=>some (lpS [0,1,4,5] [] [.lst tWrite,.i,.i,.i] [] vpo (fun p q=>(p.1,p.2.1,p.2.2.1,p.2.2.2.1)) (fun k=>(Sum.elim (onE (exZ .ret vlf vkf) k) (onE (exZ (.exit 0) vlf vkf) k))))
 |2000004=>some ⟨[0,2,4,6,8,10,13,14],[],fun _ _ _=>none⟩
 |2000007=>some ⟨[0,2,4,6,8,10,13,14],[],fun _ _ _=>none⟩
 |_=>none
theorem v11:LpAt G42 ⟨0,44,vnj⟩ Try.f85 0:=
 vbf rfl (fun x=>(n31n_bp0 x).p) vlf vkf (Sum.elim ((exZ .ret vlf vkf)) ((exZ (.exit 0) vlf vkf))) (fun _ _=>⟨rfl,rfl⟩) (fun z=>by rcases z with z|z<;>(intro h;cases h)) (fun k z=>by rcases z with z|z<;>rfl) (fun x=>by kernel_rfl)
theorem v6s:vab Try.prog 85 v3t:=
 va4 G42_ok follows (Try.f85.body.getD .skip) Try.func85 (by kernel_rfl) fun p q=>⟨vnj,(n31n_p _ _).p.map _,by rw [v34];kernel_rfl,vaa (ids:=[0]) (by kernel_rfl) (by kernel_rfl) ⟨v11,trivial⟩⟩
def G43:Glob:=G42.add 85 v3t
theorem G43_ok:GlobOk Try.prog G43:=G42_ok.add ⟨Try.f85,Try.func85,by kernel_rfl,by kernel_rfl⟩ v6s
def vl5:q7T→List AV:=fun x=>[.lst tTxn x.1,.i x.2.1,.i x.2.2.1,.i x.2.2.2]
def vlb:q7T→St:=fun x=>[]
def vno:Nat→Option LoopSpec
 |0=>some (lpS [0,1,4,5] [] [.lst tTxn,.i,.i,.i] [] vf3 (fun p q=>(p.1,p.2.1,p.2.2.1,p.2.2.2.1)) (fun k=>(Sum.elim (onE (exZ .ret vl5 vlb) k) (onE (exZ (.exit 0) vl5 vlb) k))))
 |2000025=>some ⟨[0,2,4,6,8,10,13,14],[],fun _ _ _=>none⟩
 |_=>none
theorem v1x:LpAt G43 ⟨0,88,vno⟩ Try.f70 0:=
 vbf rfl (fun x=>(n29n_bp0 x).p) vl5 vlb (Sum.elim ((exZ .ret vl5 vlb)) ((exZ (.exit 0) vl5 vlb))) (fun _ _=>⟨rfl,rfl⟩) (fun z=>by rcases z with z|z<;>(intro h;cases h)) (fun k z=>by rcases z with z|z<;>rfl) (fun x=>by kernel_rfl)
theorem v52:vab Try.prog 70 v3d:=
 va4 G43_ok follows (Try.f70.body.getD .skip) Try.func70 (by kernel_rfl) fun p q=>⟨vno,(n29n_p _ _).p.map _,by rw [vym];kernel_rfl,vaa (ids:=[0]) (by kernel_rfl) (by kernel_rfl) ⟨v1x,trivial⟩⟩
def G44:Glob:=G43.add 70 v3d
theorem G44_ok:GlobOk Try.prog G44:=G43_ok.add ⟨Try.f70,Try.func70,by kernel_rfl,by kernel_rfl⟩ v52
def vwt:Nat→Option LoopSpec
 |_=>none
theorem v6r:vab Try.prog 69 v29:=
 va4 G44_ok follows (Try.f69.body.getD .skip) Try.func69 (by kernel_rfl) fun p q=>⟨vwt,(n22n_p _ _).p.map _,by rw [vyx];kernel_rfl,vaa (ids:=[]) (by kernel_rfl) (by kernel_rfl) trivial⟩
def G45:Glob:=G44.add 69 v29
theorem G45_ok:GlobOk Try.prog G45:=G44_ok.add ⟨Try.f69,Try.func69,by kernel_rfl,by kernel_rfl⟩ v6r
def vwh:Nat→Option LoopSpec
 |_=>none
theorem v6n:vab Try.prog 48 v3c:=
 va4 G45_ok follows (Try.f48.body.getD .skip) Try.func48 (by kernel_rfl) fun p q=>⟨vwh,(n24n_p _ _).p.map _,by rw [vyf];kernel_rfl,vaa (ids:=[]) (by kernel_rfl) (by kernel_rfl) trivial⟩
def G46:Glob:=G45.add 48 v3c
theorem G46_ok:GlobOk Try.prog G46:=G45_ok.add ⟨Try.f48,Try.func48,by kernel_rfl,by kernel_rfl⟩ v6n
def vl1:q1T→List AV:=fun x=>[.lst .str x.1,.i x.2.1,.i x.2.2.1,.i x.2.2.2]
def vko:q1T→St:=fun x=>[]
def vn2:Nat→Option LoopSpec
 |0=>some (lpS [0,1,4,5] [] [.lst .str,.i,.i,.i] [] vf2 (fun p q=>(p.1,p.2.1,p.2.2.1,p.2.2.2.1)) (fun k=>(Sum.elim (onE (exZ .ret vl1 vko) k) (onE (exZ (.exit 0) vl1 vko) k))))
 |_=>none
theorem v01:LpAt G46 ⟨0,22,vn2⟩ Try.f71 0:=
 vbf rfl (fun x=>(n28n_bp0 x).p) vl1 vko (Sum.elim ((exZ .ret vl1 vko)) ((exZ (.exit 0) vl1 vko))) (fun _ _=>⟨rfl,rfl⟩) (fun z=>by rcases z with z|z<;>(intro h;cases h)) (fun k z=>by rcases z with z|z<;>rfl) (fun x=>by kernel_rfl)
theorem v61:vab Try.prog 71 v3f:=
 va4 G46_ok follows (Try.f71.body.getD .skip) Try.func71 (by kernel_rfl) fun p q=>⟨vn2,(n28n_p _ _).p.map _,by rw [vx0];kernel_rfl,vaa (ids:=[0]) (by kernel_rfl) (by kernel_rfl) ⟨v01,trivial⟩⟩
def G47:Glob:=G46.add 71 v3f
theorem G47_ok:GlobOk Try.prog G47:=G46_ok.add ⟨Try.f71,Try.func71,by kernel_rfl,by kernel_rfl⟩ v61
def vkj:q3T→List AV:=fun x=>[.lst tPut x.1,.i x.2.1,.i x.2.2.1,.i x.2.2.2]
def vlc:q3T→St:=fun x=>[]
def vmu:Nat→Option LoopSpec
 |0=>some (lpS [0,1,4,5] [] [.lst tPut,.i,.i,.i] [] vgl (fun p q=>(p.1,p.2.1,p.2.2.1,p.2.2.2.1)) (fun k=>(Sum.elim (onE (exZ .ret vkj vlc) k) (onE (exZ (.exit 0) vkj vlc) k))))
 |2000007=>some ⟨[0,2,4,6,8,10,13,14],[],fun _ _ _=>none⟩
 |_=>none
theorem v07:LpAt G47 ⟨0,32,vmu⟩ Try.f72 0:=
 vbf rfl (fun x=>(n25n_bp0 x).p) vkj vlc (Sum.elim ((exZ .ret vkj vlc)) ((exZ (.exit 0) vkj vlc))) (fun _ _=>⟨rfl,rfl⟩) (fun z=>by rcases z with z|z<;>(intro h;cases h)) (fun k z=>by rcases z with z|z<;>rfl) (fun x=>by kernel_rfl)
theorem v5p:vab Try.prog 72 v2w:=
 va4 G47_ok follows (Try.f72.body.getD .skip) Try.func72 (by kernel_rfl) fun p q=>⟨vmu,(n25n_p _ _).p.map _,by rw [vzj];kernel_rfl,vaa (ids:=[0]) (by kernel_rfl) (by kernel_rfl) ⟨v07,trivial⟩⟩
def G48:Glob:=G47.add 72 v2w
theorem G48_ok:GlobOk Try.prog G48:=G47_ok.add ⟨Try.f72,Try.func72,by kernel_rfl,by kernel_rfl⟩ v5p
def vv6:Nat→Option LoopSpec
 |_=>none
theorem v6d:vab Try.prog 49 v3r:=
 va4 G48_ok follows (Try.f49.body.getD .skip) Try.func49 (by kernel_rfl) fun p q=>⟨vv6,(n23n_p _ _).p.map _,by rw [vy5];kernel_rfl,vaa (ids:=[]) (by kernel_rfl) (by kernel_rfl) trivial⟩
def G49:Glob:=G48.add 49 v3r
theorem G49_ok:GlobOk Try.prog G49:=G48_ok.add ⟨Try.f49,Try.func49,by kernel_rfl,by kernel_rfl⟩ v6d
def vxh:Nat→Option LoopSpec
 |_=>none
theorem v5m:vab Try.prog 23 v3h:=
 va4 G49_ok follows (Try.f23.body.getD .skip) Try.func23 (by kernel_rfl) fun p q=>⟨vxh,(n27n_p _ _).p.map _,by rw [vzz];kernel_rfl,vaa (ids:=[]) (by kernel_rfl) (by kernel_rfl) trivial⟩
def G50:Glob:=G49.add 23 v3h
theorem G50_ok:GlobOk Try.prog G50:=G49_ok.add ⟨Try.f23,Try.func23,by kernel_rfl,by kernel_rfl⟩ v5m
def vwk:Nat→Option LoopSpec
 |_=>none
theorem v3q:vab Try.prog 5 vy6:=
 va4 G50_ok follows (Try.f5.body.getD .skip) Try.func5 (by kernel_rfl) fun p q=>⟨vwk,n06n_p.p.map _,by rw [v0e];kernel_rfl,vaa (ids:=[]) (by kernel_rfl) (by kernel_rfl) trivial⟩
def G51:Glob:=G50.add 5 vy6
theorem v7k:GlobOk Try.prog G51:=G50_ok.add ⟨Try.f5,Try.func5,by kernel_rfl,by kernel_rfl⟩ v3q
end
end Go.VE
