/- Each function told by its native program; written by gen.py. -/
import Derived.Test.YteolgjmeigifbaaGreatReadRecordS0
namespace Go.VE
open Go.Proofs
noncomputable section
set_option linter.unusedVariables false
set_option linter.unusedSimpArgs false
set_option maxRecDepth 100000
def wco:(Int×ByteArray×Int×Int)→List AV:=fun x=>[.int .u32 x.1,.str x.2.1,.i x.2.2.1,.i x.2.2.2]
def wdf:(Int×ByteArray×Int×Int)→St:=fun x=>[]
def wb2:(Int×ByteArray×Int)→List AV:=fun x=>[.int .u32 x.1,.str x.2.1,.i x.2.2]
def wes:(Int×ByteArray×Int)→St:=fun x=>[]
def vuq:Nat→Option LoopSpec
 |2=>some (lpS [0,1,5,6] [] [.int .u32,.str,.i,.i] [] vmr (fun p q=>(p.1,p.2.1,p.2.2.1,p.2.2.2.1)) (fun k=>(onE (exZ (.exit 2) wco wdf) k)))
 |0=>some (lpS [0,1,5] [] [.int .u32,.str,.i] [] vms (fun p q=>(p.1,p.2.1,p.2.2.1)) (fun k=>(onE (exZ (.exit 0) wb2 wes) k)))
 |_=>none
theorem wuz:LpAt G0.shallow ⟨0,33,vuq⟩ Tryz.f223 2:=
 vat rfl (fun x=>(n99n_bp2 x).p) wco wdf (exZ (.exit 2) wco wdf) (fun _ _=>⟨rfl,rfl⟩) (fun z=>by(intro h;cases h)) (fun _ _=>rfl) (fun x=>by kernel_rfl)
theorem wvb:LpAt G0.shallow ⟨0,33,vuq⟩ Tryz.f223 0:=
 vat rfl (fun x=>(n99n_bp0 x).p) wb2 wes (exZ (.exit 0) wb2 wes) (fun _ _=>⟨rfl,rfl⟩) (fun z=>by(intro h;cases h)) (fun _ _=>rfl) (fun x=>by kernel_rfl)
theorem w27:vad Tryz.prog 223 wwy:=
 vay G0_ok.shallow follows (Tryz.f223.body.getD .skip) Tryz.func223 (by kernel_rfl) fun p q=>⟨vuq,(n99n_p _ _).p.map _,by rw [whp];kernel_rfl,vac (ids:=[2,0]) (by kernel_rfl) (by kernel_rfl) ⟨wuz,⟨wvb,trivial⟩⟩⟩
def G1:Glob:=G0.add 223 wwy
theorem G1_ok:GlobOk Tryz.prog G1:=G0_ok.add ⟨Tryz.f223,Tryz.func223,by kernel_rfl,by kernel_rfl⟩ w27
def wbk:Nat→Option LoopSpec
 |_=>none
theorem w0e:vad Tryz.prog 146 wqu:=
 vay G1_ok.shallow follows (Tryz.f146.body.getD .skip) Tryz.func146 (by kernel_rfl) fun p q=>⟨wbk,(n100n_p _).p.map _,by rw [wbx];kernel_rfl,vac (ids:=[]) (by kernel_rfl) (by kernel_rfl) trivial⟩
def G2:Glob:=G1.add 146 wqu
theorem G2_ok:GlobOk Tryz.prog G2:=G1_ok.add ⟨Tryz.f146,Tryz.func146,by kernel_rfl,by kernel_rfl⟩ w0e
def wcb:Nat→Option LoopSpec
 |_=>none
theorem w00:vad Tryz.prog 145 wmu:=
 vay G2_ok.shallow follows (Tryz.f145.body.getD .skip) Tryz.func145 (by kernel_rfl) fun p q=>⟨wcb,(n109n_p _).p.map _,by rw [v69];kernel_rfl,vac (ids:=[]) (by kernel_rfl) (by kernel_rfl) trivial⟩
def G3:Glob:=G2.add 145 wmu
theorem G3_ok:GlobOk Tryz.prog G3:=G2_ok.add ⟨Tryz.f145,Tryz.func145,by kernel_rfl,by kernel_rfl⟩ w00
def wbv:Nat→Option LoopSpec
 |2000002=>some ⟨[0,2,4,6,8,10,12,14,16,18,20,22,24,26,28,30,32],[],fun _ _ _=>none⟩
 |_=>none
theorem w0h:vad Tryz.prog 66 wo5:=
 vay G3_ok.shallow follows (Tryz.f66.body.getD .skip) Tryz.func66 (by kernel_rfl) fun p q=>⟨wbv,(n103n_p _).p.map _,by rw [wct];kernel_rfl,vac (ids:=[]) (by kernel_rfl) (by kernel_rfl) trivial⟩
def G4:Glob:=G3.add 66 wo5
theorem G4_ok:GlobOk Tryz.prog G4:=G3_ok.add ⟨Tryz.f66,Tryz.func66,by kernel_rfl,by kernel_rfl⟩ w0h
def wck:Nat→Option LoopSpec
 |_=>none
theorem wy7:vad Tryz.prog 135 wqs:=
 vay G4_ok.shallow follows (Tryz.f135.body.getD .skip) Tryz.func135 (by kernel_rfl) fun p q=>⟨wck,(n107n_p _ _ _).p.map _,by rw [web];kernel_rfl,vac (ids:=[]) (by kernel_rfl) (by kernel_rfl) trivial⟩
def G5:Glob:=G4.add 135 wqs
theorem G5_ok:GlobOk Tryz.prog G5:=G4_ok.add ⟨Tryz.f135,Tryz.func135,by kernel_rfl,by kernel_rfl⟩ wy7
def v5t:(Int×(List Int))→List AV:=fun x=>[.i x.1,.own 0]
def v57:(Int×(List Int))→St:=fun x=>[.arr (.int .u8) x.2]
def v0f:Nat→Option LoopSpec
 |0=>some (lpS [0,3] [] [.i,.own 0] [.arr (.int .u8)] vgp (fun p q=>(p.1,q.1)) (fun k=>(onE (exZ (.exit 0) v5t v57) k)))
 |_=>none
theorem wmi:LpAt G5.shallow ⟨0,22,v0f⟩ Tryz.f225 0:=
 vat rfl (fun x=>(n108n_bp0 x).p) v5t v57 (exZ (.exit 0) v5t v57) (fun _ _=>⟨rfl,rfl⟩) (fun z=>by(intro h;cases h)) (fun _ _=>rfl) (fun x=>by kernel_rfl)
theorem w0q:vad Tryz.prog 225 wnu:=
 vay G5_ok.shallow follows (Tryz.f225.body.getD .skip) Tryz.func225 (by kernel_rfl) fun p q=>⟨v0f,(n108n_p _).p.map _,by rw [v8b];kernel_rfl,vac (ids:=[0]) (by kernel_rfl) (by kernel_rfl) ⟨wmi,trivial⟩⟩
def G6:Glob:=G5.add 225 wnu
theorem G6_ok:GlobOk Tryz.prog G6:=G5_ok.add ⟨Tryz.f225,Tryz.func225,by kernel_rfl,by kernel_rfl⟩ w0q
def ver:q52T→List AV:=fun x=>[.str x.1,.i x.2.1,.i x.2.2.1,.i x.2.2.2.1,.bool x.2.2.2.2.1,.i x.2.2.2.2.2.1,.i x.2.2.2.2.2.2.1,.i x.2.2.2.2.2.2.2]
def vel:q52T→St:=fun x=>[]
def vw5:q52T→List AV:=fun x=>[.str x.1,.i x.2.1,.i x.2.2.1,.i x.2.2.2.1,.bool x.2.2.2.2.1,.i x.2.2.2.2.2.1,.i x.2.2.2.2.2.2.1,.i x.2.2.2.2.2.2.2]
def vx7:q52T→St:=fun x=>[]
def vut:Nat→Option LoopSpec
 |6000001=>some (ctS [0,1,4,5,6,7,8,9] [] [.str,.i,.i,.i,.bool,.i,.i,.i] [] vfm (fun p q=>(p.1,p.2.1,p.2.2.1,p.2.2.2.1,p.2.2.2.2.1,p.2.2.2.2.2.1,p.2.2.2.2.2.2.1,p.2.2.2.2.2.2.2.1)) (fun k=>(Sum.elim (onE (exZ .ret ver vel) k) (onE (exZ .norm ver vel) k))))
 |0=>some (lpS [0,1,4,5,6,7,8,9] [] [.str,.i,.i,.i,.bool,.i,.i,.i] [] vn1 (fun p q=>(p.1,p.2.1,p.2.2.1,p.2.2.2.1,p.2.2.2.2.1,p.2.2.2.2.2.1,p.2.2.2.2.2.2.1,p.2.2.2.2.2.2.2.1)) (fun k=>(Sum.elim (onE (exZ (.exit 0) vw5 vx7) k) (onE (exZ .ret vw5 vx7) k))))
 |2000011=>some ⟨[0,2,4,6,10,12,14,16,18,8,20,22],[],fun _ _ _=>none⟩
 |_=>none
theorem v1x:CtAt G6.shallow ⟨0,58,vut⟩ Tryz.f224 6000001:=
 vbu rfl (fun x=>(n95n_jp6000001 x).p) ver vel (Sum.elim ((exZ .ret ver vel)) ((exZ .norm ver vel))) (fun _ _=>⟨rfl,rfl⟩) (fun k z=>by rcases z with z|z<;>rfl) (fun x=>by kernel_rfl)
theorem wtq:LpAt G6.shallow ⟨0,58,vut⟩ Tryz.f224 0:=
 vat rfl (fun x=>(n95n_bp0 x).p) vw5 vx7 (Sum.elim ((exZ (.exit 0) vw5 vx7)) ((exZ .ret vw5 vx7))) (fun _ _=>⟨rfl,rfl⟩) (fun z=>by rcases z with z|z<;>(intro h;cases h)) (fun k z=>by rcases z with z|z<;>rfl) (fun x=>by kernel_rfl)
theorem w2v:vad Tryz.prog 224 wwb:=
 vay G6_ok.shallow follows (Tryz.f224.body.getD .skip) Tryz.func224 (by kernel_rfl) fun p q=>⟨vut,(n95n_p _ _).p.map _,by rw [wnd];kernel_rfl,vac (ids:=[6000001,0]) (by kernel_rfl) (by kernel_rfl) ⟨v1x,⟨wtq,trivial⟩⟩⟩
def G7:Glob:=G6.add 224 wwb
theorem G7_ok:GlobOk Tryz.prog G7:=G6_ok.add ⟨Tryz.f224,Tryz.func224,by kernel_rfl,by kernel_rfl⟩ w2v
def wkl:Nat→Option LoopSpec
 |_=>none
theorem w35:vad Tryz.prog 147 ww2:=
 vay G7_ok.shallow follows (Tryz.f147.body.getD .skip) Tryz.func147 (by kernel_rfl) fun p q=>⟨wkl,(n93n_p _ _).p.map _,by rw [wop];kernel_rfl,vac (ids:=[]) (by kernel_rfl) (by kernel_rfl) trivial⟩
def G8:Glob:=G7.add 147 ww2
theorem G8_ok:GlobOk Tryz.prog G8:=G7_ok.add ⟨Tryz.f147,Tryz.func147,by kernel_rfl,by kernel_rfl⟩ w35
def wbt:Nat→Option LoopSpec
 |2000001=>some ⟨[0,2,4,6,8,10,12,14,16,18,20,22,24,26,28,30],[],fun _ _ _=>none⟩
 |_=>none
theorem wy5:vad Tryz.prog 67 wni:=
 vay G8_ok.shallow follows (Tryz.f67.body.getD .skip) Tryz.func67 (by kernel_rfl) fun p q=>⟨wbt,(n112n_p _ _ _).p.map _,by rw [wd9];kernel_rfl,vac (ids:=[]) (by kernel_rfl) (by kernel_rfl) trivial⟩
def G9:Glob:=G8.add 67 wni
theorem G9_ok:GlobOk Tryz.prog G9:=G8_ok.add ⟨Tryz.f67,Tryz.func67,by kernel_rfl,by kernel_rfl⟩ wy5
def vib:q27T→List AV:=fun x=>[.bp 0 0,.bool x.1]
def vip:q27T→St:=fun x=>[.box [.str x.2.1,.i x.2.2.1,.bool x.2.2.2]]
def vz3:Nat→Option LoopSpec
 |5000004=>some (ctS [0,2] [] [.bp 0 0,.bool] [.box [.str,.i,.bool]] vet (fun p q=>(p.2.1,q.1.1,q.1.2.1,q.1.2.2.1)) (fun k=>(onE (exZ .ret vib vip) k)))
 |2000001=>some ⟨[0,2,4,6,8,10,12,14,16,18,20,22,24,26,28,30,32,34,36,38,40,42,44,46,48,50,52,54],[],fun _ _ _=>none⟩
 |2000005=>some ⟨[0,2,4,6,8,10,12,14,16,18,20,22],[],fun _ _ _=>none⟩
 |_=>none
theorem vxw:CtAt G9.shallow ⟨1,53,vz3⟩ Tryz.f68 5000004:=
 vbu rfl (fun x=>(n111n_jp5000004 x).p) vib vip (exZ .ret vib vip) (fun _ _=>⟨rfl,rfl⟩) (fun _ _=>rfl) (fun x=>by kernel_rfl)
theorem wze:vad Tryz.prog 68 woh:=
 vay G9_ok.shallow follows (Tryz.f68.body.getD .skip) Tryz.func68 (by kernel_rfl) fun p q=>⟨vz3,(n111n_p _ _ _).p.map _,by rw [wcw];kernel_rfl,vac (ids:=[5000004]) (by kernel_rfl) (by kernel_rfl) ⟨vxw,trivial⟩⟩
def G10:Glob:=G9.add 68 woh
theorem G10_ok:GlobOk Tryz.prog G10:=G9_ok.add ⟨Tryz.f68,Tryz.func68,by kernel_rfl,by kernel_rfl⟩ wze
def wex:Nat→Option LoopSpec
 |2000001=>some ⟨[0,2,4,6,8,10,12,14,16,18,20,22,24,26,28,30],[],fun _ _ _=>none⟩
 |_=>none
theorem w0s:vad Tryz.prog 148 wny:=
 vay G10_ok.shallow follows (Tryz.f148.body.getD .skip) Tryz.func148 (by kernel_rfl) fun p q=>⟨wex,(n114n_p _ _ _).p.map _,by rw [weo];kernel_rfl,vac (ids:=[]) (by kernel_rfl) (by kernel_rfl) trivial⟩
def G11:Glob:=G10.add 148 wny
theorem G11_ok:GlobOk Tryz.prog G11:=G10_ok.add ⟨Tryz.f148,Tryz.func148,by kernel_rfl,by kernel_rfl⟩ w0s
def vyu:(ByteArray×Bool×Int)→List AV:=fun x=>[.str x.1,.bool x.2.1,.i x.2.2]
def vxx:(ByteArray×Bool×Int)→St:=fun x=>[]
def v4d:Nat→Option LoopSpec
 |0=>some (lpS [0,2,3] [] [.str,.bool,.i] [] vnu (fun p q=>(p.1,p.2.1,p.2.2.1)) (fun k=>(Sum.elim (onE (exZ .ret vyu vxx) k) (onE (exZ (.exit 0) vyu vxx) k))))
 |_=>none
theorem wuf:LpAt G11.shallow ⟨0,23,v4d⟩ Tryz.f175 0:=
 vat rfl (fun x=>(n89n_bp0 x).p) vyu vxx (Sum.elim ((exZ .ret vyu vxx)) ((exZ (.exit 0) vyu vxx))) (fun _ _=>⟨rfl,rfl⟩) (fun z=>by rcases z with z|z<;>(intro h;cases h)) (fun k z=>by rcases z with z|z<;>rfl) (fun x=>by kernel_rfl)
theorem w1j:vad Tryz.prog 175 wx5:=
 vay G11_ok.shallow follows (Tryz.f175.body.getD .skip) Tryz.func175 (by kernel_rfl) fun p q=>⟨v4d,(n89n_p _).p.map _,by rw [woy];kernel_rfl,vac (ids:=[0]) (by kernel_rfl) (by kernel_rfl) ⟨wuf,trivial⟩⟩
def G12:Glob:=G11.add 175 wx5
theorem G12_ok:GlobOk Tryz.prog G12:=G11_ok.add ⟨Tryz.f175,Tryz.func175,by kernel_rfl,by kernel_rfl⟩ w1j
def wda:Nat→Option LoopSpec
 |_=>none
theorem wzy:vad Tryz.prog 255 wn4:=
 vay G12_ok.shallow follows (Tryz.f255.body.getD .skip) Tryz.func255 (by kernel_rfl) fun p q=>⟨wda,(n105n_p _).p.map _,by rw [wc7];kernel_rfl,vac (ids:=[]) (by kernel_rfl) (by kernel_rfl) trivial⟩
def G13:Glob:=G12.add 255 wn4
theorem G13_ok:GlobOk Tryz.prog G13:=G12_ok.add ⟨Tryz.f255,Tryz.func255,by kernel_rfl,by kernel_rfl⟩ wzy
def vtt:((List vag)×Bool×Int)→List AV:=fun x=>[.lst tWrite x.1,.bool x.2.1,.i x.2.2]
def vtw:((List vag)×Bool×Int)→St:=fun x=>[]
def vx0:Nat→Option LoopSpec
 |0=>some (lpS [0,2,3] [] [.lst tWrite,.bool,.i] [] vjd (fun p q=>(p.1,p.2.1,p.2.2.1)) (fun k=>(Sum.elim (onE (exZ .ret vtt vtw) k) (onE (exZ (.exit 0) vtt vtw) k))))
 |2000004=>some ⟨[0,2,4,6,9,10,12,14,16,18,20,22,24,26,28,30,32,34,36,38,40,42,44,46],[],fun _ _ _=>none⟩
 |_=>none
theorem wm9:LpAt G13.shallow ⟨0,37,vx0⟩ Tryz.f216 0:=
 vat rfl (fun x=>(n106n_bp0 x).p) vtt vtw (Sum.elim ((exZ .ret vtt vtw)) ((exZ (.exit 0) vtt vtw))) (fun _ _=>⟨rfl,rfl⟩) (fun z=>by rcases z with z|z<;>(intro h;cases h)) (fun k z=>by rcases z with z|z<;>rfl) (fun x=>by kernel_rfl)
theorem wzt:vad Tryz.prog 216 woz:=
 vay G13_ok.shallow follows (Tryz.f216.body.getD .skip) Tryz.func216 (by kernel_rfl) fun p q=>⟨vx0,(n106n_p _).p.map _,by rw [wem];kernel_rfl,vac (ids:=[0]) (by kernel_rfl) (by kernel_rfl) ⟨wm9,trivial⟩⟩
def G14:Glob:=G13.add 216 woz
theorem G14_ok:GlobOk Tryz.prog G14:=G13_ok.add ⟨Tryz.f216,Tryz.func216,by kernel_rfl,by kernel_rfl⟩ wzt
def wkz:Nat→Option LoopSpec
 |_=>none
theorem w2a:vad Tryz.prog 84 wx6:=
 vay G14_ok.shallow follows (Tryz.f84.body.getD .skip) Tryz.func84 (by kernel_rfl) fun p q=>⟨wkz,(n90n_p _).p.map _,by rw [wpk];kernel_rfl,vac (ids:=[]) (by kernel_rfl) (by kernel_rfl) trivial⟩
def G15:Glob:=G14.add 84 wx6
theorem G15_ok:GlobOk Tryz.prog G15:=G14_ok.add ⟨Tryz.f84,Tryz.func84,by kernel_rfl,by kernel_rfl⟩ w2a
def vim:q31T→List AV:=fun x=>[.bp 0 0,.bool x.1]
def vh8:q31T→St:=fun x=>[.box [.i x.2.1,.i x.2.2.1,.i x.2.2.2.1,.i x.2.2.2.2.1,.lst tRange x.2.2.2.2.2.1,.lst tWrite x.2.2.2.2.2.2.1,.bool x.2.2.2.2.2.2.2.1,.str x.2.2.2.2.2.2.2.2]]
def vie:q31T→List AV:=fun x=>[.bp 0 0,.bool x.1]
def vi2:q31T→St:=fun x=>[.box [.i x.2.1,.i x.2.2.1,.i x.2.2.2.1,.i x.2.2.2.2.1,.lst tRange x.2.2.2.2.2.1,.lst tWrite x.2.2.2.2.2.2.1,.bool x.2.2.2.2.2.2.2.1,.str x.2.2.2.2.2.2.2.2]]
def vs6:q33T→List AV:=fun x=>[.bp 0 0,.bool x.1,.i x.2.1]
def vti:q33T→St:=fun x=>let xh:=x.2.2.2.2.2.2.2.2;[.box [.i x.2.2.1,.i x.2.2.2.1,.i x.2.2.2.2.1,.i x.2.2.2.2.2.1,.lst tRange x.2.2.2.2.2.2.1,.lst tWrite x.2.2.2.2.2.2.2.1,.bool xh.1,.str xh.2]]
def vid:q31T→List AV:=fun x=>[.bp 0 0,.bool x.1]
def viw:q31T→St:=fun x=>[.box [.i x.2.1,.i x.2.2.1,.i x.2.2.2.1,.i x.2.2.2.2.1,.lst tRange x.2.2.2.2.2.1,.lst tWrite x.2.2.2.2.2.2.1,.bool x.2.2.2.2.2.2.2.1,.str x.2.2.2.2.2.2.2.2]]
def vir:Nat→Option LoopSpec
 |5000012=>some (ctS [1,2] [] [.bp 0 0,.bool] [.box [.i,.i,.i,.i,.lst tRange,.lst tWrite,.bool,.str]] vcb (fun p q=>(p.2.1,q.1.1,q.1.2.1,q.1.2.2.1,q.1.2.2.2.1,q.1.2.2.2.2.1,q.1.2.2.2.2.2.1,q.1.2.2.2.2.2.2.1,q.1.2.2.2.2.2.2.2.1)) (fun k=>(onE (exZ .ret vim vh8) k)))
 |5000010=>some (ctS [1,2] [] [.bp 0 0,.bool] [.box [.i,.i,.i,.i,.lst tRange,.lst tWrite,.bool,.str]] vcc (fun p q=>(p.2.1,q.1.1,q.1.2.1,q.1.2.2.1,q.1.2.2.2.1,q.1.2.2.2.2.1,q.1.2.2.2.2.2.1,q.1.2.2.2.2.2.2.1,q.1.2.2.2.2.2.2.2.1)) (fun k=>(onE (exZ .ret vie vi2) k)))
 |0=>some (lpS [1,2,3] [] [.bp 0 0,.bool,.i] [.box [.i,.i,.i,.i,.lst tRange,.lst tWrite,.bool,.str]] vjk (fun p q=>(p.2.1,p.2.2.1,q.1.1,q.1.2.1,q.1.2.2.1,q.1.2.2.2.1,q.1.2.2.2.2.1,q.1.2.2.2.2.2.1,q.1.2.2.2.2.2.2.1,q.1.2.2.2.2.2.2.2.1)) (fun k=>(Sum.elim (onE (exZ .ret vs6 vti) k) (onE (exZ (.exit 0) vs6 vti) k))))
 |5000003=>some (ctS [1,2] [] [.bp 0 0,.bool] [.box [.i,.i,.i,.i,.lst tRange,.lst tWrite,.bool,.str]] vdo (fun p q=>(p.2.1,q.1.1,q.1.2.1,q.1.2.2.1,q.1.2.2.2.1,q.1.2.2.2.2.1,q.1.2.2.2.2.2.1,q.1.2.2.2.2.2.2.1,q.1.2.2.2.2.2.2.2.1)) (fun k=>(onE (exZ .ret vid viw) k)))
 |_=>none
theorem vy2:CtAt G15.shallow ⟨0,95,vir⟩ Tryz.f136 5000012:=
 vbu rfl (fun x=>(n101n_jp5000012 x).p) vim vh8 (exZ .ret vim vh8) (fun _ _=>⟨rfl,rfl⟩) (fun _ _=>rfl) (fun x=>by kernel_rfl)
theorem vze:CtAt G15.shallow ⟨0,95,vir⟩ Tryz.f136 5000010:=
 vbu rfl (fun x=>(n101n_jp5000010 x).p) vie vi2 (exZ .ret vie vi2) (fun _ _=>⟨rfl,rfl⟩) (fun _ _=>rfl) (fun x=>by kernel_rfl)
theorem wno:LpAt G15.shallow ⟨0,95,vir⟩ Tryz.f136 0:=
 vat rfl (fun x=>(n101n_bp0 x).p) vs6 vti (Sum.elim ((exZ .ret vs6 vti)) ((exZ (.exit 0) vs6 vti))) (fun _ _=>⟨rfl,rfl⟩) (fun z=>by rcases z with z|z<;>(intro h;cases h)) (fun k z=>by rcases z with z|z<;>rfl) (fun x=>by kernel_rfl)
theorem v0l:CtAt G15.shallow ⟨0,95,vir⟩ Tryz.f136 5000003:=
 vbu rfl (fun x=>(n101n_jp5000003 x).p) vid viw (exZ .ret vid viw) (fun _ _=>⟨rfl,rfl⟩) (fun _ _=>rfl) (fun x=>by kernel_rfl)
theorem wy8:vad Tryz.prog 136 wna:=
 vay G15_ok.shallow follows (Tryz.f136.body.getD .skip) Tryz.func136 (by kernel_rfl) fun p q=>⟨vir,(n101n_p _).p.map _,by rw [wcs];kernel_rfl,vac (ids:=[5000012,5000010,0,5000003]) (by kernel_rfl) (by kernel_rfl) ⟨vy2,⟨vze,⟨wno,⟨v0l,trivial⟩⟩⟩⟩⟩
def G16:Glob:=G15.add 136 wna
theorem G16_ok:GlobOk Tryz.prog G16:=G15_ok.add ⟨Tryz.f136,Tryz.func136,by kernel_rfl,by kernel_rfl⟩ wy8
def v2h:q77T→List AV:=fun x=>[.bp 0 0,.dead,.dead,.bp 1 0,.bp 2 0]
def v1p:q77T→St:=fun x=>let xh:=x.2.2.2.2.2.2.2.2;let xhh:=xh.2.2.2.2.2.2.2.2;[.box [.i x.1,.i x.2.1,.i x.2.2.1,.i x.2.2.2.1,.own 3,.own 4,.bool x.2.2.2.2.1,.str x.2.2.2.2.2.1],.box [.str x.2.2.2.2.2.2.1,.i x.2.2.2.2.2.2.2.1,.bool xh.1],.box [.i xh.2.1,.i xh.2.2.1,.i xh.2.2.2.1,.i xh.2.2.2.2.1,.own 5,.own 6,.bool xh.2.2.2.2.2.1,.str xh.2.2.2.2.2.2.1],.arr tRange xh.2.2.2.2.2.2.2.1,.arr tWrite xhh.1,.arr tRange xhh.2.1,.arr tWrite xhh.2.2]
def vpp:q59T→Out×List AV×St:=fun z=>let zh:=z.2.2.2.2.2.2.2.2;let zhh:=zh.2.2.2.2.2.2.2.2;(.ret,[.bp 0 0,.i z.1,.bool z.2.1,.bp 1 0,.bp 2 0],[.box [.i z.2.2.1,.i z.2.2.2.1,.i z.2.2.2.2.1,.i z.2.2.2.2.2.1,.own 3,.own 4,.bool z.2.2.2.2.2.2.1,.str z.2.2.2.2.2.2.2.1],.box [.str zh.1,.i zh.2.1,.bool zh.2.2.1],.box [.i zh.2.2.2.1,.i zh.2.2.2.2.1,.i zh.2.2.2.2.2.1,.i zh.2.2.2.2.2.2.1,.own 3,.own 4,.bool zh.2.2.2.2.2.2.2.1,.str zhh.1],.arr tRange zhh.2.1,.arr tWrite zhh.2.2])
def vj3:q83T→List AV:=fun x=>[.bp 0 0,.bp 1 0,.bp 2 0,.i x.1,.i x.2.1]
def vln:q83T→St:=fun x=>let xh:=x.2.2.2.2.2.2.2.2;let xhh:=xh.2.2.2.2.2.2.2.2;[.box [.i x.2.2.1,.i x.2.2.2.1,.i x.2.2.2.2.1,.i x.2.2.2.2.2.1,.nilS,.nilS,.bool x.2.2.2.2.2.2.1,.str x.2.2.2.2.2.2.2.1],.box [.str xh.1,.i xh.2.1,.bool xh.2.2.1],.box [.i xh.2.2.2.1,.i xh.2.2.2.2.1,.i xh.2.2.2.2.2.1,.i xh.2.2.2.2.2.2.1,.own 3,.nilS,.bool xh.2.2.2.2.2.2.2.1,.str xhh.1],.arr tRange xhh.2]
def wdm:q83T→List AV:=fun x=>[.bp 0 0,.bp 1 0,.bp 2 0,.i x.1,.i x.2.1]
def wbo:q83T→St:=fun x=>let xh:=x.2.2.2.2.2.2.2.2;let xhh:=xh.2.2.2.2.2.2.2.2;[.box [.i x.2.2.1,.i x.2.2.2.1,.i x.2.2.2.2.1,.i x.2.2.2.2.2.1,.nilS,.nilS,.bool x.2.2.2.2.2.2.1,.str x.2.2.2.2.2.2.2.1],.box [.str xh.1,.i xh.2.1,.bool xh.2.2.1],.box [.i xh.2.2.2.1,.i xh.2.2.2.2.1,.i xh.2.2.2.2.2.1,.i xh.2.2.2.2.2.2.1,.own 3,.nilS,.bool xh.2.2.2.2.2.2.2.1,.str xhh.1],.arr tRange xhh.2]
def vk3:q82T→List AV:=fun x=>[.bp 0 0,.bp 1 0,.bp 2 0,.i x.1,.i x.2.1]
def vk2:q82T→St:=fun x=>let xh:=x.2.2.2.2.2.2.2.2;let xhh:=xh.2.2.2.2.2.2.2.2;[.box [.i x.2.2.1,.i x.2.2.2.1,.i x.2.2.2.2.1,.i x.2.2.2.2.2.1,.nilS,.nilS,.bool x.2.2.2.2.2.2.1,.str x.2.2.2.2.2.2.2.1],.box [.str xh.1,.i xh.2.1,.bool xh.2.2.1],.box [.i xh.2.2.2.1,.i xh.2.2.2.2.1,.i xh.2.2.2.2.2.1,.i xh.2.2.2.2.2.2.1,.own 3,.own 4,.bool xh.2.2.2.2.2.2.2.1,.str xhh.1],.arr tRange xhh.2.1,.arr tWrite xhh.2.2]
def we7:q82T→List AV:=fun x=>[.bp 0 0,.bp 1 0,.bp 2 0,.i x.1,.i x.2.1]
def wcc:q82T→St:=fun x=>let xh:=x.2.2.2.2.2.2.2.2;let xhh:=xh.2.2.2.2.2.2.2.2;[.box [.i x.2.2.1,.i x.2.2.2.1,.i x.2.2.2.2.1,.i x.2.2.2.2.2.1,.nilS,.nilS,.bool x.2.2.2.2.2.2.1,.str x.2.2.2.2.2.2.2.1],.box [.str xh.1,.i xh.2.1,.bool xh.2.2.1],.box [.i xh.2.2.2.1,.i xh.2.2.2.2.1,.i xh.2.2.2.2.2.1,.i xh.2.2.2.2.2.2.1,.own 3,.own 4,.bool xh.2.2.2.2.2.2.2.1,.str xhh.1],.arr tRange xhh.2.1,.arr tWrite xhh.2.2]
def vh1:Nat→Option LoopSpec
 |5000025=>some (ctS [4,5,6,7,8] [none,none,none,none,none,none,none,none,none,some tRange,some tWrite,none,none,none,none,none,none,none,none,none,some tRange] [.bp 0 0,.dead,.dead,.bp 1 0,.bp 2 0] [.box [.i,.i,.i,.i,.own 3,.own 4,.bool,.str],.box [.str,.i,.bool],.box [.i,.i,.i,.i,.own 5,.own 6,.bool,.str],.arr tRange,.arr tWrite,.arr tRange,.arr tWrite] vhj (fun p q=>(q.1.1,q.1.2.1,q.1.2.2.1,q.1.2.2.2.1,q.1.2.2.2.2.2.2.1,q.1.2.2.2.2.2.2.2.1,q.2.1.1,q.2.1.2.1,q.2.1.2.2.1,q.2.2.1.1,q.2.2.1.2.1,q.2.2.1.2.2.1,q.2.2.1.2.2.2.1,q.2.2.1.2.2.2.2.2.2.1,q.2.2.1.2.2.2.2.2.2.2.1,q.2.2.2.1,q.2.2.2.2.1,q.2.2.2.2.2.1,q.2.2.2.2.2.2.1)) (fun k=>(onE vpp k)))
 |6000001=>some (ctS [4,7,8,9,10] [none,none,none,none,none,none,none,none,none,none,none,none,none,none,none,none,none,none,none,none,some tRange] [.bp 0 0,.bp 1 0,.bp 2 0,.i,.i] [.box [.i,.i,.i,.i,.nilS,.nilS,.bool,.str],.box [.str,.i,.bool],.box [.i,.i,.i,.i,.own 3,.nilS,.bool,.str],.arr tRange] vfh (fun p q=>(p.2.2.2.1,p.2.2.2.2.1,q.1.1,q.1.2.1,q.1.2.2.1,q.1.2.2.2.1,q.1.2.2.2.2.2.2.1,q.1.2.2.2.2.2.2.2.1,q.2.1.1,q.2.1.2.1,q.2.1.2.2.1,q.2.2.1.1,q.2.2.1.2.1,q.2.2.1.2.2.1,q.2.2.1.2.2.2.1,q.2.2.1.2.2.2.2.2.2.1,q.2.2.1.2.2.2.2.2.2.2.1,q.2.2.2.1)) (fun k=>(onE (exZ .norm vj3 vln) k)))
 |0=>some (lpS [4,7,8,9,10] [none,none,none,none,none,none,none,none,none,none,none,none,none,none,none,none,none,none,none,none,some tRange] [.bp 0 0,.bp 1 0,.bp 2 0,.i,.i] [.box [.i,.i,.i,.i,.nilS,.nilS,.bool,.str],.box [.str,.i,.bool],.box [.i,.i,.i,.i,.own 3,.nilS,.bool,.str],.arr tRange] vo3 (fun p q=>(p.2.2.2.1,p.2.2.2.2.1,q.1.1,q.1.2.1,q.1.2.2.1,q.1.2.2.2.1,q.1.2.2.2.2.2.2.1,q.1.2.2.2.2.2.2.2.1,q.2.1.1,q.2.1.2.1,q.2.1.2.2.1,q.2.2.1.1,q.2.2.1.2.1,q.2.2.1.2.2.1,q.2.2.1.2.2.2.1,q.2.2.1.2.2.2.2.2.2.1,q.2.2.1.2.2.2.2.2.2.2.1,q.2.2.2.1)) (fun k=>(onE (exZ (.exit 0) wdm wbo) k)))
 |6000003=>some (ctS [4,7,8,12,13] [none,none,none,none,none,none,none,none,none,none,none,none,none,none,none,none,none,none,none,none,some tRange,some tWrite] [.bp 0 0,.bp 1 0,.bp 2 0,.i,.i] [.box [.i,.i,.i,.i,.nilS,.nilS,.bool,.str],.box [.str,.i,.bool],.box [.i,.i,.i,.i,.own 3,.own 4,.bool,.str],.arr tRange,.arr tWrite] vfe (fun p q=>(p.2.2.2.1,p.2.2.2.2.1,q.1.1,q.1.2.1,q.1.2.2.1,q.1.2.2.2.1,q.1.2.2.2.2.2.2.1,q.1.2.2.2.2.2.2.2.1,q.2.1.1,q.2.1.2.1,q.2.1.2.2.1,q.2.2.1.1,q.2.2.1.2.1,q.2.2.1.2.2.1,q.2.2.1.2.2.2.1,q.2.2.1.2.2.2.2.2.2.1,q.2.2.1.2.2.2.2.2.2.2.1,q.2.2.2.1,q.2.2.2.2.1)) (fun k=>(onE (exZ .norm vk3 vk2) k)))
 |2=>some (lpS [4,7,8,12,13] [none,none,none,none,none,none,none,none,none,none,none,none,none,none,none,none,none,none,none,none,some tRange,some tWrite] [.bp 0 0,.bp 1 0,.bp 2 0,.i,.i] [.box [.i,.i,.i,.i,.nilS,.nilS,.bool,.str],.box [.str,.i,.bool],.box [.i,.i,.i,.i,.own 3,.own 4,.bool,.str],.arr tRange,.arr tWrite] vpo (fun p q=>(p.2.2.2.1,p.2.2.2.2.1,q.1.1,q.1.2.1,q.1.2.2.1,q.1.2.2.2.1,q.1.2.2.2.2.2.2.1,q.1.2.2.2.2.2.2.2.1,q.2.1.1,q.2.1.2.1,q.2.1.2.2.1,q.2.2.1.1,q.2.2.1.2.1,q.2.2.1.2.2.1,q.2.2.1.2.2.2.1,q.2.2.1.2.2.2.2.2.2.1,q.2.2.1.2.2.2.2.2.2.2.1,q.2.2.2.1,q.2.2.2.2.1)) (fun k=>(onE (exZ (.exit 2) we7 wcc) k)))
 |1000025=>some ⟨[0],[],fun _ _ _=>none⟩
 |3000000=>some ⟨[],[none,none,none,none,some tRange,some tWrite],fun _ _ _=>none⟩
 |_=>none
theorem v02:CtAt G16.shallow ⟨0,115,vh1⟩ Tryz.f70 5000025:=
 vbu rfl (fun x=>(n94n_jp5000025 x).p) v2h v1p vpp (fun _ _=>⟨rfl,rfl⟩) (fun _ _=>rfl) (fun x=>by kernel_rfl)
theorem v06:CtAt G16.shallow ⟨0,115,vh1⟩ Tryz.f70 6000001:=
 vbu rfl (fun x=>(n94n_jp6000001 x).p) vj3 vln (exZ .norm vj3 vln) (fun _ _=>⟨rfl,rfl⟩) (fun _ _=>rfl) (fun x=>by kernel_rfl)
theorem wsu:LpAt G16.shallow ⟨0,115,vh1⟩ Tryz.f70 0:=
 vat rfl (fun x=>(n94n_bp0 x).p) wdm wbo (exZ (.exit 0) wdm wbo) (fun _ _=>⟨rfl,rfl⟩) (fun z=>by(intro h;cases h)) (fun _ _=>rfl) (fun x=>by kernel_rfl)
theorem v13:CtAt G16.shallow ⟨0,115,vh1⟩ Tryz.f70 6000003:=
 vbu rfl (fun x=>(n94n_jp6000003 x).p) vk3 vk2 (exZ .norm vk3 vk2) (fun _ _=>⟨rfl,rfl⟩) (fun _ _=>rfl) (fun x=>by kernel_rfl)
theorem wr0:LpAt G16.shallow ⟨0,115,vh1⟩ Tryz.f70 2:=
 vat rfl (fun x=>(n94n_bp2 x).p) we7 wcc (exZ (.exit 2) we7 wcc) (fun _ _=>⟨rfl,rfl⟩) (fun z=>by(intro h;cases h)) (fun _ _=>rfl) (fun x=>by kernel_rfl)
theorem w08:vad Tryz.prog 70 wx8:=
 vay G16_ok.shallow follows (Tryz.f70.body.getD .skip) Tryz.func70 (by kernel_rfl) fun p q=>⟨vh1,(n94n_p _ _).p.map _,by rw [wmj];kernel_rfl,vac (ids:=[5000025,6000001,0,6000003,2]) (by kernel_rfl) (by kernel_rfl) ⟨v02,⟨v06,⟨wsu,⟨v13,⟨wr0,trivial⟩⟩⟩⟩⟩⟩
def G17:Glob:=G16.add 70 wx8
theorem G17_ok:GlobOk Tryz.prog G17:=G16_ok.add ⟨Tryz.f70,Tryz.func70,by kernel_rfl,by kernel_rfl⟩ w08
def vis:q73T→List AV:=fun x=>[.bp 0 0,.i x.1,.own 1,.own 2,.i x.2.1,.i x.2.2.1]
def vil:q73T→St:=fun x=>[.box [.str x.2.2.2.1,.i x.2.2.2.2.1,.bool x.2.2.2.2.2.1],.dep tTxn x.2.2.2.2.2.2.1 0,.arr tTxn x.2.2.2.2.2.2.2]
def vnm:q74T→Out×List AV×St:=fun z=>(.ret,[.bp 0 0,.i z.1,.own 1,.own 1,.i z.2.1,.i z.2.2.1],[.box [.str z.2.2.2.1,.i z.2.2.2.2.1,.bool z.2.2.2.2.2.1],.arr tTxn z.2.2.2.2.2.2])
def v6w:q73T→List AV:=fun x=>[.bp 0 0,.i x.1,.own 1,.own 2,.i x.2.1,.i x.2.2.1]
def v62:q73T→St:=fun x=>[.box [.str x.2.2.2.1,.i x.2.2.2.2.1,.bool x.2.2.2.2.2.1],.dep tTxn x.2.2.2.2.2.2.1 0,.arr tTxn x.2.2.2.2.2.2.2]
def v9e:q74T→Out×List AV×St:=fun z=>(.ret,[.bp 0 0,.i z.1,.own 1,.own 1,.i z.2.1,.i z.2.2.1],[.box [.str z.2.2.2.1,.i z.2.2.2.2.1,.bool z.2.2.2.2.2.1],.arr tTxn z.2.2.2.2.2.2])
def vse:Nat→Option LoopSpec
 |6000001=>some (ctS [0,1,4,5,6,7] [none,none,some tTxn] [.bp 0 0,.i,.own 1,.own 2,.i,.i] [.box [.str,.i,.bool],.dep tTxn 0,.arr tTxn] vdq (fun p q=>(p.2.1,p.2.2.2.2.1,p.2.2.2.2.2.1,q.1.1,q.1.2.1,q.1.2.2.1,q.2.1,q.2.2.1)) (fun k=>(Sum.elim (onE (exZ .norm vis vil) k) (onE vnm k))))
 |0=>some (lpS [0,1,4,5,6,7] [none,none,some tTxn] [.bp 0 0,.i,.own 1,.own 2,.i,.i] [.box [.str,.i,.bool],.dep tTxn 0,.arr tTxn] vgs (fun p q=>(p.2.1,p.2.2.2.2.1,p.2.2.2.2.2.1,q.1.1,q.1.2.1,q.1.2.2.1,q.2.1,q.2.2.1)) (fun k=>(Sum.elim (onE (exZ (.exit 0) v6w v62) k) (onE v9e k))))
 |_=>none
theorem vxi:CtAt G17.shallow ⟨1,59,vse⟩ Tryz.f149 6000001:=
 vbu rfl (fun x=>(n117n_jp6000001 x).p) vis vil (Sum.elim ((exZ .norm vis vil)) (vnm)) (fun _ _=>⟨rfl,rfl⟩) (fun k z=>by rcases z with z|z<;>rfl) (fun x=>by kernel_rfl)
theorem wnh:LpAt G17.shallow ⟨1,59,vse⟩ Tryz.f149 0:=
 vat rfl (fun x=>(n117n_bp0 x).p) v6w v62 (Sum.elim ((exZ (.exit 0) v6w v62)) (v9e)) (fun _ _=>⟨rfl,rfl⟩) (fun z=>by rcases z with z|z<;>(intro h;cases h)) (fun k z=>by rcases z with z|z<;>rfl) (fun x=>by kernel_rfl)
theorem wzp:vad Tryz.prog 149 wp6:=
 vay G17_ok.shallow follows (Tryz.f149.body.getD .skip) Tryz.func149 (by kernel_rfl) fun p q=>⟨vse,(n117n_p _ _ _ _).p.map _,by rw [wcu];kernel_rfl,vac (ids:=[6000001,0]) (by kernel_rfl) (by kernel_rfl) ⟨vxi,⟨wnh,trivial⟩⟩⟩
def G18:Glob:=G17.add 149 wp6
theorem G18_ok:GlobOk Tryz.prog G18:=G17_ok.add ⟨Tryz.f149,Tryz.func149,by kernel_rfl,by kernel_rfl⟩ wzp
def vd5:q14T→List AV:=fun x=>[.lst tVersion x.1,.bool x.2.1,.i x.2.2.1,.bp 0 0]
def vd3:q14T→St:=fun x=>[.box [.str x.2.2.2.1,.str x.2.2.2.2.1,.bool x.2.2.2.2.2.1,.i x.2.2.2.2.2.2]]
def vtq:((List vaa)×Bool×Int)→List AV:=fun x=>[.lst tVersion x.1,.bool x.2.1,.i x.2.2]
def vtr:((List vaa)×Bool×Int)→St:=fun x=>[]
def vsk:Nat→Option LoopSpec
 |5000007=>some (ctS [0,2,3,4] [] [.lst tVersion,.bool,.i,.bp 0 0] [.box [.str,.str,.bool,.i]] vc3 (fun p q=>(p.1,p.2.1,p.2.2.1,q.1.1,q.1.2.1,q.1.2.2.1,q.1.2.2.2.1)) (fun k=>(Sum.elim (onE (exZ .ret vd5 vd3) k) (onE (exZ .norm vd5 vd3) k))))
 |0=>some (lpS [0,2,3] [] [.lst tVersion,.bool,.i] [] vjq (fun p q=>(p.1,p.2.1,p.2.2.1)) (fun k=>(Sum.elim (onE (exZ .ret vtq vtr) k) (onE (exZ (.exit 0) vtq vtr) k))))
 |2000007=>some ⟨[0,2,4,6,8,10,12,14,16,18,20,22,24,26,28,30,32,34,36,38,40,42,44,46,48,50,52,54,56,58,60,62,64,66,68],[],fun _ _ _=>none⟩
 |_=>none
theorem vzb:CtAt G18.shallow ⟨0,78,vsk⟩ Tryz.f134 5000007:=
 vbu rfl (fun x=>(n104n_jp5000007 x).p) vd5 vd3 (Sum.elim ((exZ .ret vd5 vd3)) ((exZ .norm vd5 vd3))) (fun _ _=>⟨rfl,rfl⟩) (fun k z=>by rcases z with z|z<;>rfl) (fun x=>by kernel_rfl)
theorem wpv:LpAt G18.shallow ⟨0,78,vsk⟩ Tryz.f134 0:=
 vat rfl (fun x=>(n104n_bp0 x).p) vtq vtr (Sum.elim ((exZ .ret vtq vtr)) ((exZ (.exit 0) vtq vtr))) (fun _ _=>⟨rfl,rfl⟩) (fun z=>by rcases z with z|z<;>(intro h;cases h)) (fun k z=>by rcases z with z|z<;>rfl) (fun x=>by kernel_rfl)
theorem w0o:vad Tryz.prog 134 wnp:=
 vay G18_ok.shallow follows (Tryz.f134.body.getD .skip) Tryz.func134 (by kernel_rfl) fun p q=>⟨vsk,(n104n_p _).p.map _,by rw [wep];kernel_rfl,vac (ids:=[5000007,0]) (by kernel_rfl) (by kernel_rfl) ⟨vzb,⟨wpv,trivial⟩⟩⟩
def G19:Glob:=G18.add 134 wnp
theorem G19_ok:GlobOk Tryz.prog G19:=G18_ok.add ⟨Tryz.f134,Tryz.func134,by kernel_rfl,by kernel_rfl⟩ w0o
def vwx:q29T→List AV:=fun x=>[.bp 0 0,.bool x.1,.i x.2.1]
def vzi:q29T→St:=fun x=>[.box [.lst tVersion x.2.2.1,.lst tTxn x.2.2.2.1,.lst tTxn x.2.2.2.2.1,.i x.2.2.2.2.2.1,.i x.2.2.2.2.2.2]]
def vy8:q28T→List AV:=fun x=>[.bp 0 0,.bool x.1,.own 1,.i x.2.1]
def vzr:q28T→St:=fun x=>[.box [.lst tVersion x.2.2.1,.lst tTxn x.2.2.2.1,.lst tTxn x.2.2.2.2.1,.i x.2.2.2.2.2.1,.i x.2.2.2.2.2.2.1],.arr (.i) x.2.2.2.2.2.2.2]
def vxt:q28T→List AV:=fun x=>[.bp 0 0,.bool x.1,.own 1,.i x.2.1]
def vy3:q28T→St:=fun x=>[.box [.lst tVersion x.2.2.1,.lst tTxn x.2.2.2.1,.lst tTxn x.2.2.2.2.1,.i x.2.2.2.2.2.1,.i x.2.2.2.2.2.2.1],.arr (.i) x.2.2.2.2.2.2.2]
def vxz:q30T→List AV:=fun x=>[.bp 0 0,.bool x.1,.own 1,.i x.2.1,.i x.2.2.1]
def vxa:q30T→St:=fun x=>[.box [.lst tVersion x.2.2.2.1,.lst tTxn x.2.2.2.2.1,.lst tTxn x.2.2.2.2.2.1,.i x.2.2.2.2.2.2.1,.i x.2.2.2.2.2.2.2.1],.arr (.i) x.2.2.2.2.2.2.2.2]
def vyy:q28T→List AV:=fun x=>[.bp 0 0,.bool x.1,.own 1,.i x.2.1]
def vyi:q28T→St:=fun x=>[.box [.lst tVersion x.2.2.1,.lst tTxn x.2.2.2.1,.lst tTxn x.2.2.2.2.1,.i x.2.2.2.2.2.1,.i x.2.2.2.2.2.2.1],.arr (.i) x.2.2.2.2.2.2.2]
def vkz:q23T→List AV:=fun x=>[.bp 0 0,.bool x.1]
def vk0:q23T→St:=fun x=>[.box [.lst tVersion x.2.1,.lst tTxn x.2.2.1,.lst tTxn x.2.2.2.1,.i x.2.2.2.2.1,.i x.2.2.2.2.2]]
def vgk:Nat→Option LoopSpec
 |0=>some (lpS [1,2,3] [] [.bp 0 0,.bool,.i] [.box [.lst tVersion,.lst tTxn,.lst tTxn,.i,.i]] voh (fun p q=>(p.2.1,p.2.2.1,q.1.1,q.1.2.1,q.1.2.2.1,q.1.2.2.2.1,q.1.2.2.2.2.1)) (fun k=>(Sum.elim (onE (exZ .ret vwx vzi) k) (onE (exZ (.exit 0) vwx vzi) k))))
 |2=>some (lpS [1,2,4,5] [] [.bp 0 0,.bool,.own 1,.i] [.box [.lst tVersion,.lst tTxn,.lst tTxn,.i,.i],.arr (.i)] vom (fun p q=>(p.2.1,p.2.2.2.1,q.1.1,q.1.2.1,q.1.2.2.1,q.1.2.2.2.1,q.1.2.2.2.2.1,q.2.1)) (fun k=>(Sum.elim (onE (exZ .ret vy8 vzr) k) (onE (exZ (.exit 2) vy8 vzr) k))))
 |4=>some (lpS [1,2,4,7] [] [.bp 0 0,.bool,.own 1,.i] [.box [.lst tVersion,.lst tTxn,.lst tTxn,.i,.i],.arr (.i)] vpr (fun p q=>(p.2.1,p.2.2.2.1,q.1.1,q.1.2.1,q.1.2.2.1,q.1.2.2.2.1,q.1.2.2.2.2.1,q.2.1)) (fun k=>(Sum.elim (onE (exZ .ret vxt vy3) k) (onE (exZ (.exit 4) vxt vy3) k))))
 |8=>some (lpS [1,2,4,9,10] [] [.bp 0 0,.bool,.own 1,.i,.i] [.box [.lst tVersion,.lst tTxn,.lst tTxn,.i,.i],.arr (.i)] vrr (fun p q=>(p.2.1,p.2.2.2.1,p.2.2.2.2.1,q.1.1,q.1.2.1,q.1.2.2.1,q.1.2.2.2.1,q.1.2.2.2.2.1,q.2.1)) (fun k=>(Sum.elim (onE (exZ .ret vxz vxa) k) (onE (exZ (.exit 8) vxz vxa) k))))
 |6=>some (lpS [1,2,4,9] [] [.bp 0 0,.bool,.own 1,.i] [.box [.lst tVersion,.lst tTxn,.lst tTxn,.i,.i],.arr (.i)] vn3 (fun p q=>(p.2.1,p.2.2.2.1,q.1.1,q.1.2.1,q.1.2.2.1,q.1.2.2.2.1,q.1.2.2.2.2.1,q.2.1)) (fun k=>(Sum.elim (onE (exZ (.exit 6) vyy vyi) k) (onE (exZ .ret vyy vyi) k))))
 |5000003=>some (ctS [1,2] [] [.bp 0 0,.bool] [.box [.lst tVersion,.lst tTxn,.lst tTxn,.i,.i]] vee (fun p q=>(p.2.1,q.1.1,q.1.2.1,q.1.2.2.1,q.1.2.2.2.1,q.1.2.2.2.2.1)) (fun k=>(onE (exZ .ret vkz vk0) k)))
 |2000006=>some ⟨[0,2,4,6,8,10,12,14,16],[],fun _ _ _=>none⟩
 |2000013=>some ⟨[0,3,4,6,8,10,12,14,16,18,20,22,24,26,28,30,32,34,36,38,40,42,44,46,48,50,52,54,56,58,60],[],fun _ _ _=>none⟩
 |2000020=>some ⟨[0,3,4,6,8,10,12,14,16,18,20,22,24,26,28,30,32,34,36,38,40,42,44,46,48,50,52,54,56,58,60],[],fun _ _ _=>none⟩
 |2000029=>some ⟨[0,2,4,6,8,10,12,14,16],[],fun _ _ _=>none⟩
 |_=>none
theorem wsg:LpAt G19.shallow ⟨0,179,vgk⟩ Tryz.f56 0:=
 vat rfl (fun x=>(n87n_bp0 x).p) vwx vzi (Sum.elim ((exZ .ret vwx vzi)) ((exZ (.exit 0) vwx vzi))) (fun _ _=>⟨rfl,rfl⟩) (fun z=>by rcases z with z|z<;>(intro h;cases h)) (fun k z=>by rcases z with z|z<;>rfl) (fun x=>by kernel_rfl)
theorem wv2:LpAt G19.shallow ⟨0,179,vgk⟩ Tryz.f56 2:=
 vat rfl (fun x=>(n87n_bp2 x).p) vy8 vzr (Sum.elim ((exZ .ret vy8 vzr)) ((exZ (.exit 2) vy8 vzr))) (fun _ _=>⟨rfl,rfl⟩) (fun z=>by rcases z with z|z<;>(intro h;cases h)) (fun k z=>by rcases z with z|z<;>rfl) (fun x=>by kernel_rfl)
theorem ws7:LpAt G19.shallow ⟨0,179,vgk⟩ Tryz.f56 4:=
 vat rfl (fun x=>(n87n_bp4 x).p) vxt vy3 (Sum.elim ((exZ .ret vxt vy3)) ((exZ (.exit 4) vxt vy3))) (fun _ _=>⟨rfl,rfl⟩) (fun z=>by rcases z with z|z<;>(intro h;cases h)) (fun k z=>by rcases z with z|z<;>rfl) (fun x=>by kernel_rfl)
theorem wum:LpAt G19.shallow ⟨0,179,vgk⟩ Tryz.f56 8:=
 vat rfl (fun x=>(n87n_bp8 x).p) vxz vxa (Sum.elim ((exZ .ret vxz vxa)) ((exZ (.exit 8) vxz vxa))) (fun _ _=>⟨rfl,rfl⟩) (fun z=>by rcases z with z|z<;>(intro h;cases h)) (fun k z=>by rcases z with z|z<;>rfl) (fun x=>by kernel_rfl)
theorem wth:LpAt G19.shallow ⟨0,179,vgk⟩ Tryz.f56 6:=
 vat rfl (fun x=>(n87n_bp6 x).p) vyy vyi (Sum.elim ((exZ (.exit 6) vyy vyi)) ((exZ .ret vyy vyi))) (fun _ _=>⟨rfl,rfl⟩) (fun z=>by rcases z with z|z<;>(intro h;cases h)) (fun k z=>by rcases z with z|z<;>rfl) (fun x=>by kernel_rfl)
theorem v11:CtAt G19.shallow ⟨0,179,vgk⟩ Tryz.f56 5000003:=
 vbu rfl (fun x=>(n87n_jp5000003 x).p) vkz vk0 (exZ .ret vkz vk0) (fun _ _=>⟨rfl,rfl⟩) (fun _ _=>rfl) (fun x=>by kernel_rfl)
theorem w3x:vad Tryz.prog 56 wwu:=
 vay G19_ok.shallow follows (Tryz.f56.body.getD .skip) Tryz.func56 (by kernel_rfl) fun p q=>⟨vgk,(n87n_p _).p.map _,by rw [wn0];kernel_rfl,vac (ids:=[0,2,4,8,6,5000003]) (by kernel_rfl) (by kernel_rfl) ⟨wsg,⟨wv2,⟨ws7,⟨wum,⟨wth,⟨v11,trivial⟩⟩⟩⟩⟩⟩⟩
def G20:Glob:=G19.add 56 wwu
theorem G20_ok:GlobOk Tryz.prog G20:=G19_ok.add ⟨Tryz.f56,Tryz.func56,by kernel_rfl,by kernel_rfl⟩ w3x
def v2g:q66T→List AV:=fun x=>[.bp 0 0,.dead,.dead,.bp 1 0,.bp 2 0]
def v2a:q66T→St:=fun x=>let xh:=x.2.2.2.2.2.2.2.2;[.box [.own 3,.own 4,.own 5,.i x.1,.i x.2.1],.box [.str x.2.2.1,.i x.2.2.2.1,.bool x.2.2.2.2.1],.box [.own 6,.own 7,.own 8,.i x.2.2.2.2.2.1,.i x.2.2.2.2.2.2.1],.arr tVersion x.2.2.2.2.2.2.2.1,.dep tTxn xh.1 0,.dep tTxn xh.2.1 0,.arr tVersion xh.2.2.1,.arr tTxn xh.2.2.2.1,.arr tTxn xh.2.2.2.2]
def vod:q58T→Out×List AV×St:=fun z=>let zh:=z.2.2.2.2.2.2.2.2;(.ret,[.bp 0 0,.i z.1,.bool z.2.1,.bp 1 0,.bp 2 0],[.box [.own 3,.own 4,.own 5,.i z.2.2.1,.i z.2.2.2.1],.box [.str z.2.2.2.2.1,.i z.2.2.2.2.2.1,.bool z.2.2.2.2.2.2.1],.box [.own 3,.own 4,.own 5,.i z.2.2.2.2.2.2.2.1,.i zh.1],.arr tVersion zh.2.1,.arr tTxn zh.2.2.1,.arr tTxn zh.2.2.2])
def vkt:q79T→List AV:=fun x=>[.bp 0 0,.bp 1 0,.bp 2 0,.i x.1,.i x.2.1]
def vj5:q79T→St:=fun x=>let xh:=x.2.2.2.2.2.2.2.2;[.box [.nilS,.nilS,.nilS,.i x.2.2.1,.i x.2.2.2.1],.box [.str x.2.2.2.2.1,.i x.2.2.2.2.2.1,.bool x.2.2.2.2.2.2.1],.box [.own 3,.nilS,.nilS,.i x.2.2.2.2.2.2.2.1,.i xh.1],.arr tVersion xh.2]
def wdp:q79T→List AV:=fun x=>[.bp 0 0,.bp 1 0,.bp 2 0,.i x.1,.i x.2.1]
def wdy:q79T→St:=fun x=>let xh:=x.2.2.2.2.2.2.2.2;[.box [.nilS,.nilS,.nilS,.i x.2.2.1,.i x.2.2.2.1],.box [.str x.2.2.2.2.1,.i x.2.2.2.2.2.1,.bool x.2.2.2.2.2.2.1],.box [.own 3,.nilS,.nilS,.i x.2.2.2.2.2.2.2.1,.i xh.1],.arr tVersion xh.2]
def vqr:Nat→Option LoopSpec
 |5000017=>some (ctS [4,5,6,7,8] [none,none,none,none,none,some tVersion,some tTxn,some tTxn,none,none,none,none,none,some tVersion] [.bp 0 0,.dead,.dead,.bp 1 0,.bp 2 0] [.box [.own 3,.own 4,.own 5,.i,.i],.box [.str,.i,.bool],.box [.own 6,.own 7,.own 8,.i,.i],.arr tVersion,.dep tTxn 0,.dep tTxn 0,.arr tVersion,.arr tTxn,.arr tTxn] vhm (fun p q=>(q.1.2.2.2.1,q.1.2.2.2.2.1,q.2.1.1,q.2.1.2.1,q.2.1.2.2.1,q.2.2.1.2.2.2.1,q.2.2.1.2.2.2.2.1,q.2.2.2.1,q.2.2.2.2.1,q.2.2.2.2.2.1,q.2.2.2.2.2.2.1,q.2.2.2.2.2.2.2.1,q.2.2.2.2.2.2.2.2.1)) (fun k=>(onE vod k)))
 |6000001=>some (ctS [4,7,8,9,10] [none,none,none,none,none,none,none,none,none,none,none,none,none,some tVersion] [.bp 0 0,.bp 1 0,.bp 2 0,.i,.i] [.box [.nilS,.nilS,.nilS,.i,.i],.box [.str,.i,.bool],.box [.own 3,.nilS,.nilS,.i,.i],.arr tVersion] vfx (fun p q=>(p.2.2.2.1,p.2.2.2.2.1,q.1.2.2.2.1,q.1.2.2.2.2.1,q.2.1.1,q.2.1.2.1,q.2.1.2.2.1,q.2.2.1.2.2.2.1,q.2.2.1.2.2.2.2.1,q.2.2.2.1)) (fun k=>(onE (exZ .norm vkt vj5) k)))
 |0=>some (lpS [4,7,8,9,10] [none,none,none,none,none,none,none,none,none,none,none,none,none,some tVersion] [.bp 0 0,.bp 1 0,.bp 2 0,.i,.i] [.box [.nilS,.nilS,.nilS,.i,.i],.box [.str,.i,.bool],.box [.own 3,.nilS,.nilS,.i,.i],.arr tVersion] vpg (fun p q=>(p.2.2.2.1,p.2.2.2.2.1,q.1.2.2.2.1,q.1.2.2.2.2.1,q.2.1.1,q.2.1.2.1,q.2.1.2.2.1,q.2.2.1.2.2.2.1,q.2.2.1.2.2.2.2.1,q.2.2.2.1)) (fun k=>(onE (exZ (.exit 0) wdp wdy) k)))
 |1000017=>some ⟨[0],[],fun _ _ _=>none⟩
 |3000000=>some ⟨[],[some tVersion,some tTxn,some tTxn],fun _ _ _=>none⟩
 |_=>none
theorem v1o:CtAt G20.shallow ⟨0,79,vqr⟩ Tryz.f69 5000017:=
 vbu rfl (fun x=>(n91n_jp5000017 x).p) v2g v2a vod (fun _ _=>⟨rfl,rfl⟩) (fun _ _=>rfl) (fun x=>by kernel_rfl)
theorem v14:CtAt G20.shallow ⟨0,79,vqr⟩ Tryz.f69 6000001:=
 vbu rfl (fun x=>(n91n_jp6000001 x).p) vkt vj5 (exZ .norm vkt vj5) (fun _ _=>⟨rfl,rfl⟩) (fun _ _=>rfl) (fun x=>by kernel_rfl)
theorem wtm:LpAt G20.shallow ⟨0,79,vqr⟩ Tryz.f69 0:=
 vat rfl (fun x=>(n91n_bp0 x).p) wdp wdy (exZ (.exit 0) wdp wdy) (fun _ _=>⟨rfl,rfl⟩) (fun z=>by(intro h;cases h)) (fun _ _=>rfl) (fun x=>by kernel_rfl)
theorem w30:vad Tryz.prog 69 wwz:=
 vay G20_ok.shallow follows (Tryz.f69.body.getD .skip) Tryz.func69 (by kernel_rfl) fun p q=>⟨vqr,(n91n_p _ _).p.map2 _ _,by rw [wls];kernel_rfl,vac (ids:=[5000017,6000001,0]) (by kernel_rfl) (by kernel_rfl) ⟨v1o,⟨v14,⟨wtm,trivial⟩⟩⟩⟩
def G21:Glob:=G20.add 69 wwz
theorem G21_ok:GlobOk Tryz.prog G21:=G20_ok.add ⟨Tryz.f69,Tryz.func69,by kernel_rfl,by kernel_rfl⟩ w30
def wew:Nat→Option LoopSpec
 |_=>none
theorem wyx:vad Tryz.prog 189 wo4:=
 vay G21_ok.shallow follows (Tryz.f189.body.getD .skip) Tryz.func189 (by kernel_rfl) fun p q=>⟨wew,(n116n_p _).p.map _,by rw [wb8];kernel_rfl,vac (ids:=[]) (by kernel_rfl) (by kernel_rfl) trivial⟩
def G22:Glob:=G21.add 189 wo4
theorem G22_ok:GlobOk Tryz.prog G22:=G21_ok.add ⟨Tryz.f189,Tryz.func189,by kernel_rfl,by kernel_rfl⟩ wyx
def we8:Nat→Option LoopSpec
 |_=>none
theorem w0k:vad Tryz.prog 190 wl3:=
 vay G22_ok.shallow follows (Tryz.f190.body.getD .skip) Tryz.func190 (by kernel_rfl) fun p q=>⟨we8,(n115n_p _).p.map _,by rw [wbj];kernel_rfl,vac (ids:=[]) (by kernel_rfl) (by kernel_rfl) trivial⟩
def G23:Glob:=G22.add 190 wl3
theorem G23_ok:GlobOk Tryz.prog G23:=G22_ok.add ⟨Tryz.f190,Tryz.func190,by kernel_rfl,by kernel_rfl⟩ w0k
def vj4:q32T→List AV:=fun x=>[.bp 0 0,.bool x.1]
def vj7:q32T→St:=fun x=>let xh:=x.2.2.2.2.2.2.2.2;[.box [.i x.2.1,.i x.2.2.1,.i x.2.2.2.1,.i x.2.2.2.2.1,.i x.2.2.2.2.2.1,.lst tRange x.2.2.2.2.2.2.1,.lst tWrite x.2.2.2.2.2.2.2.1,.bool xh.1,.str xh.2.1,.str xh.2.2.1,.bool xh.2.2.2.1,.lst tVersion xh.2.2.2.2.1,.lst tTxn xh.2.2.2.2.2.1,.lst tTxn xh.2.2.2.2.2.2.1,.i xh.2.2.2.2.2.2.2.1,.i xh.2.2.2.2.2.2.2.2]]
def vlj:q32T→List AV:=fun x=>[.bp 0 0,.bool x.1]
def vk8:q32T→St:=fun x=>let xh:=x.2.2.2.2.2.2.2.2;[.box [.i x.2.1,.i x.2.2.1,.i x.2.2.2.1,.i x.2.2.2.2.1,.i x.2.2.2.2.2.1,.lst tRange x.2.2.2.2.2.2.1,.lst tWrite x.2.2.2.2.2.2.2.1,.bool xh.1,.str xh.2.1,.str xh.2.2.1,.bool xh.2.2.2.1,.lst tVersion xh.2.2.2.2.1,.lst tTxn xh.2.2.2.2.2.1,.lst tTxn xh.2.2.2.2.2.2.1,.i xh.2.2.2.2.2.2.2.1,.i xh.2.2.2.2.2.2.2.2]]
def vkj:q26T→List AV:=fun x=>[.bp 0 0,.bool x.1,.bool x.2.1]
def vko:q26T→St:=fun x=>let xh:=x.2.2.2.2.2.2.2.2;let xhh:=xh.2.2.2.2.2.2.2.2;[.box [.i x.2.2.1,.i x.2.2.2.1,.i x.2.2.2.2.1,.i x.2.2.2.2.2.1,.i x.2.2.2.2.2.2.1,.lst tRange x.2.2.2.2.2.2.2.1,.lst tWrite xh.1,.bool xh.2.1,.str xh.2.2.1,.str xh.2.2.2.1,.bool xh.2.2.2.2.1,.lst tVersion xh.2.2.2.2.2.1,.lst tTxn xh.2.2.2.2.2.2.1,.lst tTxn xh.2.2.2.2.2.2.2.1,.i xhh.1,.i xhh.2]]
def vnz:q32T→Out×List AV×St:=fun z=>let zh:=z.2.2.2.2.2.2.2.2;(.ret,[.bp 0 0,.bool z.1,.dead],[.box [.i z.2.1,.i z.2.2.1,.i z.2.2.2.1,.i z.2.2.2.2.1,.i z.2.2.2.2.2.1,.lst tRange z.2.2.2.2.2.2.1,.lst tWrite z.2.2.2.2.2.2.2.1,.bool zh.1,.str zh.2.1,.str zh.2.2.1,.bool zh.2.2.2.1,.lst tVersion zh.2.2.2.2.1,.lst tTxn zh.2.2.2.2.2.1,.lst tTxn zh.2.2.2.2.2.2.1,.i zh.2.2.2.2.2.2.2.1,.i zh.2.2.2.2.2.2.2.2]])
def vqv:Nat→Option LoopSpec
 |5000008=>some (ctS [1,2] [] [.bp 0 0,.bool] [.box [.i,.i,.i,.i,.i,.lst tRange,.lst tWrite,.bool,.str,.str,.bool,.lst tVersion,.lst tTxn,.lst tTxn,.i,.i]] vck (fun p q=>(p.2.1,q.1.1,q.1.2.1,q.1.2.2.1,q.1.2.2.2.1,q.1.2.2.2.2.1,q.1.2.2.2.2.2.1,q.1.2.2.2.2.2.2.1,q.1.2.2.2.2.2.2.2.1,q.1.2.2.2.2.2.2.2.2.1,q.1.2.2.2.2.2.2.2.2.2.1,q.1.2.2.2.2.2.2.2.2.2.2.1,q.1.2.2.2.2.2.2.2.2.2.2.2.1,q.1.2.2.2.2.2.2.2.2.2.2.2.2.1,q.1.2.2.2.2.2.2.2.2.2.2.2.2.2.1,q.1.2.2.2.2.2.2.2.2.2.2.2.2.2.2.1,q.1.2.2.2.2.2.2.2.2.2.2.2.2.2.2.2.1)) (fun k=>(onE (exZ .ret vj4 vj7) k)))
 |5000006=>some (ctS [1,2] [] [.bp 0 0,.bool] [.box [.i,.i,.i,.i,.i,.lst tRange,.lst tWrite,.bool,.str,.str,.bool,.lst tVersion,.lst tTxn,.lst tTxn,.i,.i]] vaw (fun p q=>(p.2.1,q.1.1,q.1.2.1,q.1.2.2.1,q.1.2.2.2.1,q.1.2.2.2.2.1,q.1.2.2.2.2.2.1,q.1.2.2.2.2.2.2.1,q.1.2.2.2.2.2.2.2.1,q.1.2.2.2.2.2.2.2.2.1,q.1.2.2.2.2.2.2.2.2.2.1,q.1.2.2.2.2.2.2.2.2.2.2.1,q.1.2.2.2.2.2.2.2.2.2.2.2.1,q.1.2.2.2.2.2.2.2.2.2.2.2.2.1,q.1.2.2.2.2.2.2.2.2.2.2.2.2.2.1,q.1.2.2.2.2.2.2.2.2.2.2.2.2.2.2.1,q.1.2.2.2.2.2.2.2.2.2.2.2.2.2.2.2.1)) (fun k=>(onE (exZ .ret vlj vk8) k)))
 |5000004=>some (ctS [1,2,3] [] [.bp 0 0,.bool,.bool] [.box [.i,.i,.i,.i,.i,.lst tRange,.lst tWrite,.bool,.str,.str,.bool,.lst tVersion,.lst tTxn,.lst tTxn,.i,.i]] vdk (fun p q=>(p.2.1,p.2.2.1,q.1.1,q.1.2.1,q.1.2.2.1,q.1.2.2.2.1,q.1.2.2.2.2.1,q.1.2.2.2.2.2.1,q.1.2.2.2.2.2.2.1,q.1.2.2.2.2.2.2.2.1,q.1.2.2.2.2.2.2.2.2.1,q.1.2.2.2.2.2.2.2.2.2.1,q.1.2.2.2.2.2.2.2.2.2.2.1,q.1.2.2.2.2.2.2.2.2.2.2.2.1,q.1.2.2.2.2.2.2.2.2.2.2.2.2.1,q.1.2.2.2.2.2.2.2.2.2.2.2.2.2.1,q.1.2.2.2.2.2.2.2.2.2.2.2.2.2.2.1,q.1.2.2.2.2.2.2.2.2.2.2.2.2.2.2.2.1)) (fun k=>(Sum.elim (onE (exZ .ret vkj vko) k) (onE vnz k))))
 |_=>none
theorem v2e:CtAt G23.shallow ⟨0,87,vqv⟩ Tryz.f98 5000008:=
 vbu rfl (fun x=>(n96n_jp5000008 x).p) vj4 vj7 (exZ .ret vj4 vj7) (fun _ _=>⟨rfl,rfl⟩) (fun _ _=>rfl) (fun x=>by kernel_rfl)
theorem v1v:CtAt G23.shallow ⟨0,87,vqv⟩ Tryz.f98 5000006:=
 vbu rfl (fun x=>(n96n_jp5000006 x).p) vlj vk8 (exZ .ret vlj vk8) (fun _ _=>⟨rfl,rfl⟩) (fun _ _=>rfl) (fun x=>by kernel_rfl)
theorem v05:CtAt G23.shallow ⟨0,87,vqv⟩ Tryz.f98 5000004:=
 vbu rfl (fun x=>(n96n_jp5000004 x).p) vkj vko (Sum.elim ((exZ .ret vkj vko)) (vnz)) (fun _ _=>⟨rfl,rfl⟩) (fun k z=>by rcases z with z|z<;>rfl) (fun x=>by kernel_rfl)
theorem w05:vad Tryz.prog 98 wwp:=
 vay G23_ok.shallow follows (Tryz.f98.body.getD .skip) Tryz.func98 (by kernel_rfl) fun p q=>⟨vqv,(n96n_p _).p.map _,by rw [wmb];kernel_rfl,vac (ids:=[5000008,5000006,5000004]) (by kernel_rfl) (by kernel_rfl) ⟨v2e,⟨v1v,⟨v05,trivial⟩⟩⟩⟩
def G24:Glob:=G23.add 98 wwp
theorem G24_ok:GlobOk Tryz.prog G24:=G23_ok.add ⟨Tryz.f98,Tryz.func98,by kernel_rfl,by kernel_rfl⟩ w05
def we3:Nat→Option LoopSpec
 |_=>none
theorem wz7:vad Tryz.prog 151 wpz:=
 vay G24_ok.shallow follows (Tryz.f151.body.getD .skip) Tryz.func151 (by kernel_rfl) fun p q=>⟨we3,(n113n_p _).p.map _,by rw [wcy];kernel_rfl,vac (ids:=[]) (by kernel_rfl) (by kernel_rfl) trivial⟩
def G25:Glob:=G24.add 151 wpz
theorem G25_ok:GlobOk Tryz.prog G25:=G24_ok.add ⟨Tryz.f151,Tryz.func151,by kernel_rfl,by kernel_rfl⟩ wz7
def wea:Nat→Option LoopSpec
 |_=>none
theorem wzk:vad Tryz.prog 152 wl6:=
 vay G25_ok.shallow follows (Tryz.f152.body.getD .skip) Tryz.func152 (by kernel_rfl) fun p q=>⟨wea,(n110n_p _).p.map _,by rw [wc9];kernel_rfl,vac (ids:=[]) (by kernel_rfl) (by kernel_rfl) trivial⟩
def G26:Glob:=G25.add 152 wl6
theorem G26_ok:GlobOk Tryz.prog G26:=G25_ok.add ⟨Tryz.f152,Tryz.func152,by kernel_rfl,by kernel_rfl⟩ wzk
def wkm:Nat→Option LoopSpec
 |_=>none
theorem w3i:vad Tryz.prog 150 wxi:=
 vay G26_ok.shallow follows (Tryz.f150.body.getD .skip) Tryz.func150 (by kernel_rfl) fun p q=>⟨wkm,(n98n_p _).p.map _,by rw [wm1];kernel_rfl,vac (ids:=[]) (by kernel_rfl) (by kernel_rfl) trivial⟩
def G27:Glob:=G26.add 150 wxi
theorem G27_ok:GlobOk Tryz.prog G27:=G26_ok.add ⟨Tryz.f150,Tryz.func150,by kernel_rfl,by kernel_rfl⟩ w3i
def v7f:q54T→List AV:=fun x=>[.bp 0 0,.str x.1,.i x.2.1]
def v7o:q54T→St:=fun x=>let xh:=x.2.2.2.2.2.2.2.2;[.box [.i x.2.2.1,.i x.2.2.2.1,.i x.2.2.2.2.1,.i x.2.2.2.2.2.1,.lst tRange x.2.2.2.2.2.2.1,.lst tWrite x.2.2.2.2.2.2.2.1,.bool xh.1,.str xh.2]]
def v67:q54T→List AV:=fun x=>[.bp 0 0,.str x.1,.i x.2.1]
def v6f:q54T→St:=fun x=>let xh:=x.2.2.2.2.2.2.2.2;[.box [.i x.2.2.1,.i x.2.2.2.1,.i x.2.2.2.2.1,.i x.2.2.2.2.2.1,.lst tRange x.2.2.2.2.2.2.1,.lst tWrite x.2.2.2.2.2.2.2.1,.bool xh.1,.str xh.2]]
def vrt:Nat→Option LoopSpec
 |0=>some (lpS [1,4,5] [] [.bp 0 0,.str,.i] [.box [.i,.i,.i,.i,.lst tRange,.lst tWrite,.bool,.str]] vi6 (fun p q=>(p.2.1,p.2.2.1,q.1.1,q.1.2.1,q.1.2.2.1,q.1.2.2.2.1,q.1.2.2.2.2.1,q.1.2.2.2.2.2.1,q.1.2.2.2.2.2.2.1,q.1.2.2.2.2.2.2.2.1)) (fun k=>(onE (exZ (.exit 0) v7f v7o) k)))
 |2=>some (lpS [1,4,6] [] [.bp 0 0,.str,.i] [.box [.i,.i,.i,.i,.lst tRange,.lst tWrite,.bool,.str]] vjl (fun p q=>(p.2.1,p.2.2.1,q.1.1,q.1.2.1,q.1.2.2.1,q.1.2.2.2.1,q.1.2.2.2.2.1,q.1.2.2.2.2.2.1,q.1.2.2.2.2.2.2.1,q.1.2.2.2.2.2.2.2.1)) (fun k=>(onE (exZ (.exit 2) v67 v6f) k)))
 |2000003=>some ⟨[0,2,6,8,14,16,22,24,30,32,34,5,11,12,19,20,27,28,37,38,40],[],fun _ _ _=>none⟩
 |2000007=>some ⟨[0,2,4,6,8,10,12,18,20,22,24,26,28,15,16,31,32,34],[],fun _ _ _=>none⟩
 |2000012=>some ⟨[0,2,4,6,8,10,12,18,20,22,24,26,28,34,36,38,40,42,44,15,16,31,32,47,48,50],[],fun _ _ _=>none⟩
 |2000013=>some ⟨[0,2,4,10,12,7,8,15,16,18,20],[],fun _ _ _=>none⟩
 |_=>none
theorem wlq:LpAt G27.shallow ⟨0,101,vrt⟩ Tryz.f154 0:=
 vat rfl (fun x=>(n102n_bp0 x).p) v7f v7o (exZ (.exit 0) v7f v7o) (fun _ _=>⟨rfl,rfl⟩) (fun z=>by(intro h;cases h)) (fun _ _=>rfl) (fun x=>by kernel_rfl)
theorem wrq:LpAt G27.shallow ⟨0,101,vrt⟩ Tryz.f154 2:=
 vat rfl (fun x=>(n102n_bp2 x).p) v67 v6f (exZ (.exit 2) v67 v6f) (fun _ _=>⟨rfl,rfl⟩) (fun z=>by(intro h;cases h)) (fun _ _=>rfl) (fun x=>by kernel_rfl)
theorem w0j:vad Tryz.prog 154 wqx:=
 vay G27_ok.shallow follows (Tryz.f154.body.getD .skip) Tryz.func154 (by kernel_rfl) fun p q=>⟨vrt,(n102n_p _).p.map _,by rw [wez];kernel_rfl,vac (ids:=[0,2]) (by kernel_rfl) (by kernel_rfl) ⟨wlq,⟨wrq,trivial⟩⟩⟩
def G28:Glob:=G27.add 154 wqx
theorem G28_ok:GlobOk Tryz.prog G28:=G27_ok.add ⟨Tryz.f154,Tryz.func154,by kernel_rfl,by kernel_rfl⟩ w0j
def v8i:q8T→List AV:=fun x=>[.lst tTxn x.1,.str x.2.1,.i x.2.2]
def v8l:q8T→St:=fun x=>[]
def v0m:Nat→Option LoopSpec
 |0=>some (lpS [0,3,4] [] [.lst tTxn,.str,.i] [] vi8 (fun p q=>(p.1,p.2.1,p.2.2.1)) (fun k=>(onE (exZ (.exit 0) v8i v8l) k)))
 |_=>none
theorem wqj:LpAt G28.shallow ⟨0,28,v0m⟩ Tryz.f226 0:=
 vat rfl (fun x=>(n118n_bp0 x).p) v8i v8l (exZ (.exit 0) v8i v8l) (fun _ _=>⟨rfl,rfl⟩) (fun z=>by(intro h;cases h)) (fun _ _=>rfl) (fun x=>by kernel_rfl)
theorem w0g:vad Tryz.prog 226 wnk:=
 vay G28_ok.shallow follows (Tryz.f226.body.getD .skip) Tryz.func226 (by kernel_rfl) fun p q=>⟨v0m,(n118n_p _).p.map _,by rw [wb9];kernel_rfl,vac (ids:=[0]) (by kernel_rfl) (by kernel_rfl) ⟨wqj,trivial⟩⟩
def G29:Glob:=G28.add 226 wnk
theorem G29_ok:GlobOk Tryz.prog G29:=G28_ok.add ⟨Tryz.f226,Tryz.func226,by kernel_rfl,by kernel_rfl⟩ w0g
def wej:q45T→List AV:=fun x=>[.bp 0 0,.str x.1,.i x.2.1]
def wel:q45T→St:=fun x=>[.box [.lst tVersion x.2.2.1,.lst tTxn x.2.2.2.1,.lst tTxn x.2.2.2.2.1,.i x.2.2.2.2.2.1,.i x.2.2.2.2.2.2]]
def v4e:Nat→Option LoopSpec
 |0=>some (lpS [1,4,5] [] [.bp 0 0,.str,.i] [.box [.lst tVersion,.lst tTxn,.lst tTxn,.i,.i]] voj (fun p q=>(p.2.1,p.2.2.1,q.1.1,q.1.2.1,q.1.2.2.1,q.1.2.2.2.1,q.1.2.2.2.2.1)) (fun k=>(onE (exZ (.exit 0) wej wel) k)))
 |2000003=>some ⟨[0,2,6,8,14,16,18,5,11,12,21,22,24],[],fun _ _ _=>none⟩
 |2000008=>some ⟨[0,2,4,10,12,18,20,26,28,7,8,15,16,23,24,31,32,34],[],fun _ _ _=>none⟩
 |2000009=>some ⟨[0,2,4,10,12,7,8,15,16,18,20],[],fun _ _ _=>none⟩
 |_=>none
theorem wuq:LpAt G29.shallow ⟨0,60,v4e⟩ Tryz.f153 0:=
 vat rfl (fun x=>(n88n_bp0 x).p) wej wel (exZ (.exit 0) wej wel) (fun _ _=>⟨rfl,rfl⟩) (fun z=>by(intro h;cases h)) (fun _ _=>rfl) (fun x=>by kernel_rfl)
theorem w2b:vad Tryz.prog 153 wxs:=
 vay G29_ok.shallow follows (Tryz.f153.body.getD .skip) Tryz.func153 (by kernel_rfl) fun p q=>⟨v4e,(n88n_p _).p.map _,by rw [wm5];kernel_rfl,vac (ids:=[0]) (by kernel_rfl) (by kernel_rfl) ⟨wuq,trivial⟩⟩
def G30:Glob:=G29.add 153 wxs
theorem G30_ok:GlobOk Tryz.prog G30:=G29_ok.add ⟨Tryz.f153,Tryz.func153,by kernel_rfl,by kernel_rfl⟩ w2b
def wj9:Nat→Option LoopSpec
 |2000006=>some ⟨[0,2,4,10,12,7,8,15,16,19,20,22,24,26],[],fun _ _ _=>none⟩
 |_=>none
theorem w1t:vad Tryz.prog 71 wv9:=
 vay G30_ok.shallow follows (Tryz.f71.body.getD .skip) Tryz.func71 (by kernel_rfl) fun p q=>⟨wj9,(n97n_p _).p.map _,by rw [wlm];kernel_rfl,vac (ids:=[]) (by kernel_rfl) (by kernel_rfl) trivial⟩
def G31:Glob:=G30.add 71 wv9
theorem G31_ok:GlobOk Tryz.prog G31:=G30_ok.add ⟨Tryz.f71,Tryz.func71,by kernel_rfl,by kernel_rfl⟩ w1t
def v1h:q38T→List AV:=fun x=>[.str x.1,.bp 0 0,.bool x.2.1,.str x.2.2.1]
def v1w:q38T→St:=fun x=>let xh:=x.2.2.2.2.2.2.2.2;let xhh:=xh.2.2.2.2.2.2.2.2;[.box [.i x.2.2.2.1,.i x.2.2.2.2.1,.i x.2.2.2.2.2.1,.i x.2.2.2.2.2.2.1,.i x.2.2.2.2.2.2.2.1,.own 1,.own 2,.bool xh.1,.str xh.2.1,.str xh.2.2.1,.bool xh.2.2.2.1,.own 3,.own 4,.own 5,.i xh.2.2.2.2.1,.i xh.2.2.2.2.2.1],.arr tRange xh.2.2.2.2.2.2.1,.arr tWrite xh.2.2.2.2.2.2.2.1,.arr tVersion xhh.1,.dep tTxn xhh.2.1 0,.dep tTxn xhh.2.2 0]
def vpw:q39T→Out×List AV×St:=fun z=>let zh:=z.2.2.2.2.2.2.2.2;let zhh:=zh.2.2.2.2.2.2.2.2;(.ret,[.str z.1,.bp 0 0,.bool z.2.1,.dead],[.box [.i z.2.2.1,.i z.2.2.2.1,.i z.2.2.2.2.1,.i z.2.2.2.2.2.1,.i z.2.2.2.2.2.2.1,.own 1,.own 2,.bool z.2.2.2.2.2.2.2.1,.str zh.1,.str zh.2.1,.bool zh.2.2.1,.own 3,.own 4,.own 5,.i zh.2.2.2.1,.i zh.2.2.2.2.1],.arr tRange zh.2.2.2.2.2.1,.arr tWrite zh.2.2.2.2.2.2.1,.arr tVersion zh.2.2.2.2.2.2.2.1,.dep tTxn zhh.1 0,.dep tTxn zhh.2 0])
def vpf:q39T→Out×List AV×St:=fun z=>let zh:=z.2.2.2.2.2.2.2.2;let zhh:=zh.2.2.2.2.2.2.2.2;(.ret,[.str z.1,.bp 0 0,.bool z.2.1,.dead],[.box [.i z.2.2.1,.i z.2.2.2.1,.i z.2.2.2.2.1,.i z.2.2.2.2.2.1,.i z.2.2.2.2.2.2.1,.own 1,.own 2,.bool z.2.2.2.2.2.2.2.1,.str zh.1,.str zh.2.1,.bool zh.2.2.1,.own 3,.own 4,.own 5,.i zh.2.2.2.1,.i zh.2.2.2.2.1],.arr tRange zh.2.2.2.2.2.1,.arr tWrite zh.2.2.2.2.2.2.1,.arr tVersion zh.2.2.2.2.2.2.2.1,.arr tTxn zhh.1,.arr tTxn zhh.2])
def vhy:Nat→Option LoopSpec
 |5000013=>some ⟨[0,2,3,6],[none,none,none,none,none,none,none,none,none,some tRange,some tWrite,none,none,none,none,some tVersion,some tTxn,some tTxn,none,none,none,none,none,none,none,some tRange,some tWrite,none,none,none,none,some tVersion,some tTxn,some tTxn],fun vals st k=>val [.str,.bp 0 0,.bool,.bp 1 0] [.box [.i,.i,.i,.i,.i,.own 2,.own 3,.bool,.str,.str,.bool,.own 4,.own 5,.own 6,.i,.i],.box [.i,.i,.i,.i,.i,.own 7,.own 8,.bool,.str,.str,.bool,.own 9,.own 10,.own 11,.i,.i],.arr tRange,.arr tWrite,.arr tVersion,.dep tTxn 0,.dep tTxn 0,.arr tRange,.arr tWrite,.arr tVersion,.dep tTxn 0,.dep tTxn 0] vals st (fun p q=>vbl (.inl (p.1,p.2.2.1,q.1.1,q.1.2.1,q.1.2.2.1,q.1.2.2.2.1,q.1.2.2.2.2.1,q.1.2.2.2.2.2.2.2.1,q.1.2.2.2.2.2.2.2.2.1,q.1.2.2.2.2.2.2.2.2.2.1,q.1.2.2.2.2.2.2.2.2.2.2.1,q.1.2.2.2.2.2.2.2.2.2.2.2.2.2.2.1,q.1.2.2.2.2.2.2.2.2.2.2.2.2.2.2.2.1,q.2.1.1,q.2.1.2.1,q.2.1.2.2.1,q.2.1.2.2.2.1,q.2.1.2.2.2.2.1,q.2.1.2.2.2.2.2.2.2.1,q.2.1.2.2.2.2.2.2.2.2.1,q.2.1.2.2.2.2.2.2.2.2.2.1,q.2.1.2.2.2.2.2.2.2.2.2.2.1,q.2.1.2.2.2.2.2.2.2.2.2.2.2.2.2.2.1,q.2.1.2.2.2.2.2.2.2.2.2.2.2.2.2.2.2.1,q.2.2.1,q.2.2.2.1,q.2.2.2.2.1,q.2.2.2.2.2.1,q.2.2.2.2.2.2.1,q.2.2.2.2.2.2.2.1,q.2.2.2.2.2.2.2.2.1,q.2.2.2.2.2.2.2.2.2.1,q.2.2.2.2.2.2.2.2.2.2.1,q.2.2.2.2.2.2.2.2.2.2.2.1)) (Sum.elim (fun z=>k .ret [.str z.1,.bp 0 0,.bool z.2.1,.bp 1 0] [.box [.i z.2.2.1,.i z.2.2.2.1,.i z.2.2.2.2.1,.i z.2.2.2.2.2.1,.i z.2.2.2.2.2.2.1,.own 2,.own 3,.bool z.2.2.2.2.2.2.2.1,.str z.2.2.2.2.2.2.2.2.1,.str z.2.2.2.2.2.2.2.2.2.1,.bool z.2.2.2.2.2.2.2.2.2.2.1,.own 4,.own 5,.own 6,.i z.2.2.2.2.2.2.2.2.2.2.2.1,.i z.2.2.2.2.2.2.2.2.2.2.2.2.1],.box [.i z.2.2.2.2.2.2.2.2.2.2.2.2.2.1,.i z.2.2.2.2.2.2.2.2.2.2.2.2.2.2.1,.i z.2.2.2.2.2.2.2.2.2.2.2.2.2.2.2.1,.i z.2.2.2.2.2.2.2.2.2.2.2.2.2.2.2.2.1,.i z.2.2.2.2.2.2.2.2.2.2.2.2.2.2.2.2.2.1,.own 7,.own 8,.bool z.2.2.2.2.2.2.2.2.2.2.2.2.2.2.2.2.2.2.1,.str z.2.2.2.2.2.2.2.2.2.2.2.2.2.2.2.2.2.2.2.1,.str z.2.2.2.2.2.2.2.2.2.2.2.2.2.2.2.2.2.2.2.2.1,.bool z.2.2.2.2.2.2.2.2.2.2.2.2.2.2.2.2.2.2.2.2.2.1,.own 9,.own 10,.own 11,.i z.2.2.2.2.2.2.2.2.2.2.2.2.2.2.2.2.2.2.2.2.2.2.1,.i z.2.2.2.2.2.2.2.2.2.2.2.2.2.2.2.2.2.2.2.2.2.2.2.1],.arr tRange z.2.2.2.2.2.2.2.2.2.2.2.2.2.2.2.2.2.2.2.2.2.2.2.2.1,.arr tWrite z.2.2.2.2.2.2.2.2.2.2.2.2.2.2.2.2.2.2.2.2.2.2.2.2.2.1,.arr tVersion z.2.2.2.2.2.2.2.2.2.2.2.2.2.2.2.2.2.2.2.2.2.2.2.2.2.2.1,.dep tTxn z.2.2.2.2.2.2.2.2.2.2.2.2.2.2.2.2.2.2.2.2.2.2.2.2.2.2.2.1 0,.dep tTxn z.2.2.2.2.2.2.2.2.2.2.2.2.2.2.2.2.2.2.2.2.2.2.2.2.2.2.2.2.1 0,.arr tRange z.2.2.2.2.2.2.2.2.2.2.2.2.2.2.2.2.2.2.2.2.2.2.2.2.2.2.2.2.2.1,.arr tWrite z.2.2.2.2.2.2.2.2.2.2.2.2.2.2.2.2.2.2.2.2.2.2.2.2.2.2.2.2.2.2.1,.arr tVersion z.2.2.2.2.2.2.2.2.2.2.2.2.2.2.2.2.2.2.2.2.2.2.2.2.2.2.2.2.2.2.2.1,.dep tTxn z.2.2.2.2.2.2.2.2.2.2.2.2.2.2.2.2.2.2.2.2.2.2.2.2.2.2.2.2.2.2.2.2.1 0,.dep tTxn z.2.2.2.2.2.2.2.2.2.2.2.2.2.2.2.2.2.2.2.2.2.2.2.2.2.2.2.2.2.2.2.2.2 0]) (Sum.elim (fun z=>k .ret [.str z.1,.bp 0 0,.bool z.2.1,.bp 1 0] [.box [.i z.2.2.1,.i z.2.2.2.1,.i z.2.2.2.2.1,.i z.2.2.2.2.2.1,.i z.2.2.2.2.2.2.1,.own 2,.own 3,.bool z.2.2.2.2.2.2.2.1,.str z.2.2.2.2.2.2.2.2.1,.str z.2.2.2.2.2.2.2.2.2.1,.bool z.2.2.2.2.2.2.2.2.2.2.1,.own 4,.own 5,.own 6,.i z.2.2.2.2.2.2.2.2.2.2.2.1,.i z.2.2.2.2.2.2.2.2.2.2.2.2.1],.box [.i z.2.2.2.2.2.2.2.2.2.2.2.2.2.1,.i z.2.2.2.2.2.2.2.2.2.2.2.2.2.2.1,.i z.2.2.2.2.2.2.2.2.2.2.2.2.2.2.2.1,.i z.2.2.2.2.2.2.2.2.2.2.2.2.2.2.2.2.1,.i z.2.2.2.2.2.2.2.2.2.2.2.2.2.2.2.2.2.1,.own 2,.own 3,.bool z.2.2.2.2.2.2.2.2.2.2.2.2.2.2.2.2.2.2.1,.str z.2.2.2.2.2.2.2.2.2.2.2.2.2.2.2.2.2.2.2.1,.str z.2.2.2.2.2.2.2.2.2.2.2.2.2.2.2.2.2.2.2.2.1,.bool z.2.2.2.2.2.2.2.2.2.2.2.2.2.2.2.2.2.2.2.2.2.1,.own 4,.own 5,.own 6,.i z.2.2.2.2.2.2.2.2.2.2.2.2.2.2.2.2.2.2.2.2.2.2.1,.i z.2.2.2.2.2.2.2.2.2.2.2.2.2.2.2.2.2.2.2.2.2.2.2.1],.arr tRange z.2.2.2.2.2.2.2.2.2.2.2.2.2.2.2.2.2.2.2.2.2.2.2.2.1,.arr tWrite z.2.2.2.2.2.2.2.2.2.2.2.2.2.2.2.2.2.2.2.2.2.2.2.2.2.1,.arr tVersion z.2.2.2.2.2.2.2.2.2.2.2.2.2.2.2.2.2.2.2.2.2.2.2.2.2.2.1,.dep tTxn z.2.2.2.2.2.2.2.2.2.2.2.2.2.2.2.2.2.2.2.2.2.2.2.2.2.2.2.1 0,.dep tTxn z.2.2.2.2.2.2.2.2.2.2.2.2.2.2.2.2.2.2.2.2.2.2.2.2.2.2.2.2 0]) (Sum.elim (fun z=>k .ret [.str z.1,.bp 0 0,.bool z.2.1,.bp 1 0] [.box [.i z.2.2.1,.i z.2.2.2.1,.i z.2.2.2.2.1,.i z.2.2.2.2.2.1,.i z.2.2.2.2.2.2.1,.own 2,.own 3,.bool z.2.2.2.2.2.2.2.1,.str z.2.2.2.2.2.2.2.2.1,.str z.2.2.2.2.2.2.2.2.2.1,.bool z.2.2.2.2.2.2.2.2.2.2.1,.own 4,.own 5,.own 6,.i z.2.2.2.2.2.2.2.2.2.2.2.1,.i z.2.2.2.2.2.2.2.2.2.2.2.2.1],.box [.i z.2.2.2.2.2.2.2.2.2.2.2.2.2.1,.i z.2.2.2.2.2.2.2.2.2.2.2.2.2.2.1,.i z.2.2.2.2.2.2.2.2.2.2.2.2.2.2.2.1,.i z.2.2.2.2.2.2.2.2.2.2.2.2.2.2.2.2.1,.i z.2.2.2.2.2.2.2.2.2.2.2.2.2.2.2.2.2.1,.own 7,.own 8,.bool z.2.2.2.2.2.2.2.2.2.2.2.2.2.2.2.2.2.2.1,.str z.2.2.2.2.2.2.2.2.2.2.2.2.2.2.2.2.2.2.2.1,.str z.2.2.2.2.2.2.2.2.2.2.2.2.2.2.2.2.2.2.2.2.1,.bool z.2.2.2.2.2.2.2.2.2.2.2.2.2.2.2.2.2.2.2.2.2.1,.own 9,.own 10,.own 11,.i z.2.2.2.2.2.2.2.2.2.2.2.2.2.2.2.2.2.2.2.2.2.2.1,.i z.2.2.2.2.2.2.2.2.2.2.2.2.2.2.2.2.2.2.2.2.2.2.2.1],.arr tRange z.2.2.2.2.2.2.2.2.2.2.2.2.2.2.2.2.2.2.2.2.2.2.2.2.1,.arr tWrite z.2.2.2.2.2.2.2.2.2.2.2.2.2.2.2.2.2.2.2.2.2.2.2.2.2.1,.arr tVersion z.2.2.2.2.2.2.2.2.2.2.2.2.2.2.2.2.2.2.2.2.2.2.2.2.2.2.1,.dep tTxn z.2.2.2.2.2.2.2.2.2.2.2.2.2.2.2.2.2.2.2.2.2.2.2.2.2.2.2.1 0,.dep tTxn z.2.2.2.2.2.2.2.2.2.2.2.2.2.2.2.2.2.2.2.2.2.2.2.2.2.2.2.2.1 0,.arr tRange z.2.2.2.2.2.2.2.2.2.2.2.2.2.2.2.2.2.2.2.2.2.2.2.2.2.2.2.2.2.1,.arr tWrite z.2.2.2.2.2.2.2.2.2.2.2.2.2.2.2.2.2.2.2.2.2.2.2.2.2.2.2.2.2.2.1,.arr tVersion z.2.2.2.2.2.2.2.2.2.2.2.2.2.2.2.2.2.2.2.2.2.2.2.2.2.2.2.2.2.2.2.1,.arr tTxn z.2.2.2.2.2.2.2.2.2.2.2.2.2.2.2.2.2.2.2.2.2.2.2.2.2.2.2.2.2.2.2.2.1,.arr tTxn z.2.2.2.2.2.2.2.2.2.2.2.2.2.2.2.2.2.2.2.2.2.2.2.2.2.2.2.2.2.2.2.2.2]) (fun z=>k .ret [.str z.1,.bp 0 0,.bool z.2.1,.bp 1 0] [.box [.i z.2.2.1,.i z.2.2.2.1,.i z.2.2.2.2.1,.i z.2.2.2.2.2.1,.i z.2.2.2.2.2.2.1,.own 2,.own 3,.bool z.2.2.2.2.2.2.2.1,.str z.2.2.2.2.2.2.2.2.1,.str z.2.2.2.2.2.2.2.2.2.1,.bool z.2.2.2.2.2.2.2.2.2.2.1,.own 4,.own 5,.own 6,.i z.2.2.2.2.2.2.2.2.2.2.2.1,.i z.2.2.2.2.2.2.2.2.2.2.2.2.1],.box [.i z.2.2.2.2.2.2.2.2.2.2.2.2.2.1,.i z.2.2.2.2.2.2.2.2.2.2.2.2.2.2.1,.i z.2.2.2.2.2.2.2.2.2.2.2.2.2.2.2.1,.i z.2.2.2.2.2.2.2.2.2.2.2.2.2.2.2.2.1,.i z.2.2.2.2.2.2.2.2.2.2.2.2.2.2.2.2.2.1,.own 2,.own 3,.bool z.2.2.2.2.2.2.2.2.2.2.2.2.2.2.2.2.2.2.1,.str z.2.2.2.2.2.2.2.2.2.2.2.2.2.2.2.2.2.2.2.1,.str z.2.2.2.2.2.2.2.2.2.2.2.2.2.2.2.2.2.2.2.2.1,.bool z.2.2.2.2.2.2.2.2.2.2.2.2.2.2.2.2.2.2.2.2.2.1,.own 4,.own 5,.own 6,.i z.2.2.2.2.2.2.2.2.2.2.2.2.2.2.2.2.2.2.2.2.2.2.1,.i z.2.2.2.2.2.2.2.2.2.2.2.2.2.2.2.2.2.2.2.2.2.2.2.1],.arr tRange z.2.2.2.2.2.2.2.2.2.2.2.2.2.2.2.2.2.2.2.2.2.2.2.2.1,.arr tWrite z.2.2.2.2.2.2.2.2.2.2.2.2.2.2.2.2.2.2.2.2.2.2.2.2.2.1,.arr tVersion z.2.2.2.2.2.2.2.2.2.2.2.2.2.2.2.2.2.2.2.2.2.2.2.2.2.2.1,.arr tTxn z.2.2.2.2.2.2.2.2.2.2.2.2.2.2.2.2.2.2.2.2.2.2.2.2.2.2.2.1,.arr tTxn z.2.2.2.2.2.2.2.2.2.2.2.2.2.2.2.2.2.2.2.2.2.2.2.2.2.2.2.2])))))
   (val [.str,.bp 0 0,.bool,.bp 1 0] [.box [.i,.i,.i,.i,.i,.own 2,.own 3,.bool,.str,.str,.bool,.own 4,.own 5,.own 6,.i,.i],.box [.i,.i,.i,.i,.i,.own 7,.own 8,.bool,.str,.str,.bool,.own 9,.own 10,.own 11,.i,.i],.arr tRange,.arr tWrite,.arr tVersion,.dep tTxn 0,.dep tTxn 0,.arr tRange,.arr tWrite,.arr tVersion,.arr tTxn,.arr tTxn] vals st (fun p q=>vbl (.inr (p.1,p.2.2.1,q.1.1,q.1.2.1,q.1.2.2.1,q.1.2.2.2.1,q.1.2.2.2.2.1,q.1.2.2.2.2.2.2.2.1,q.1.2.2.2.2.2.2.2.2.1,q.1.2.2.2.2.2.2.2.2.2.1,q.1.2.2.2.2.2.2.2.2.2.2.1,q.1.2.2.2.2.2.2.2.2.2.2.2.2.2.2.1,q.1.2.2.2.2.2.2.2.2.2.2.2.2.2.2.2.1,q.2.1.1,q.2.1.2.1,q.2.1.2.2.1,q.2.1.2.2.2.1,q.2.1.2.2.2.2.1,q.2.1.2.2.2.2.2.2.2.1,q.2.1.2.2.2.2.2.2.2.2.1,q.2.1.2.2.2.2.2.2.2.2.2.1,q.2.1.2.2.2.2.2.2.2.2.2.2.1,q.2.1.2.2.2.2.2.2.2.2.2.2.2.2.2.2.1,q.2.1.2.2.2.2.2.2.2.2.2.2.2.2.2.2.2.1,q.2.2.1,q.2.2.2.1,q.2.2.2.2.1,q.2.2.2.2.2.1,q.2.2.2.2.2.2.1,q.2.2.2.2.2.2.2.1,q.2.2.2.2.2.2.2.2.1,q.2.2.2.2.2.2.2.2.2.1,q.2.2.2.2.2.2.2.2.2.2.1,q.2.2.2.2.2.2.2.2.2.2.2.1)) (Sum.elim (fun z=>k .ret [.str z.1,.bp 0 0,.bool z.2.1,.bp 1 0] [.box [.i z.2.2.1,.i z.2.2.2.1,.i z.2.2.2.2.1,.i z.2.2.2.2.2.1,.i z.2.2.2.2.2.2.1,.own 2,.own 3,.bool z.2.2.2.2.2.2.2.1,.str z.2.2.2.2.2.2.2.2.1,.str z.2.2.2.2.2.2.2.2.2.1,.bool z.2.2.2.2.2.2.2.2.2.2.1,.own 4,.own 5,.own 6,.i z.2.2.2.2.2.2.2.2.2.2.2.1,.i z.2.2.2.2.2.2.2.2.2.2.2.2.1],.box [.i z.2.2.2.2.2.2.2.2.2.2.2.2.2.1,.i z.2.2.2.2.2.2.2.2.2.2.2.2.2.2.1,.i z.2.2.2.2.2.2.2.2.2.2.2.2.2.2.2.1,.i z.2.2.2.2.2.2.2.2.2.2.2.2.2.2.2.2.1,.i z.2.2.2.2.2.2.2.2.2.2.2.2.2.2.2.2.2.1,.own 7,.own 8,.bool z.2.2.2.2.2.2.2.2.2.2.2.2.2.2.2.2.2.2.1,.str z.2.2.2.2.2.2.2.2.2.2.2.2.2.2.2.2.2.2.2.1,.str z.2.2.2.2.2.2.2.2.2.2.2.2.2.2.2.2.2.2.2.2.1,.bool z.2.2.2.2.2.2.2.2.2.2.2.2.2.2.2.2.2.2.2.2.2.1,.own 9,.own 10,.own 11,.i z.2.2.2.2.2.2.2.2.2.2.2.2.2.2.2.2.2.2.2.2.2.2.1,.i z.2.2.2.2.2.2.2.2.2.2.2.2.2.2.2.2.2.2.2.2.2.2.2.1],.arr tRange z.2.2.2.2.2.2.2.2.2.2.2.2.2.2.2.2.2.2.2.2.2.2.2.2.1,.arr tWrite z.2.2.2.2.2.2.2.2.2.2.2.2.2.2.2.2.2.2.2.2.2.2.2.2.2.1,.arr tVersion z.2.2.2.2.2.2.2.2.2.2.2.2.2.2.2.2.2.2.2.2.2.2.2.2.2.2.1,.dep tTxn z.2.2.2.2.2.2.2.2.2.2.2.2.2.2.2.2.2.2.2.2.2.2.2.2.2.2.2.1 0,.dep tTxn z.2.2.2.2.2.2.2.2.2.2.2.2.2.2.2.2.2.2.2.2.2.2.2.2.2.2.2.2.1 0,.arr tRange z.2.2.2.2.2.2.2.2.2.2.2.2.2.2.2.2.2.2.2.2.2.2.2.2.2.2.2.2.2.1,.arr tWrite z.2.2.2.2.2.2.2.2.2.2.2.2.2.2.2.2.2.2.2.2.2.2.2.2.2.2.2.2.2.2.1,.arr tVersion z.2.2.2.2.2.2.2.2.2.2.2.2.2.2.2.2.2.2.2.2.2.2.2.2.2.2.2.2.2.2.2.1,.dep tTxn z.2.2.2.2.2.2.2.2.2.2.2.2.2.2.2.2.2.2.2.2.2.2.2.2.2.2.2.2.2.2.2.2.1 0,.dep tTxn z.2.2.2.2.2.2.2.2.2.2.2.2.2.2.2.2.2.2.2.2.2.2.2.2.2.2.2.2.2.2.2.2.2 0]) (Sum.elim (fun z=>k .ret [.str z.1,.bp 0 0,.bool z.2.1,.bp 1 0] [.box [.i z.2.2.1,.i z.2.2.2.1,.i z.2.2.2.2.1,.i z.2.2.2.2.2.1,.i z.2.2.2.2.2.2.1,.own 2,.own 3,.bool z.2.2.2.2.2.2.2.1,.str z.2.2.2.2.2.2.2.2.1,.str z.2.2.2.2.2.2.2.2.2.1,.bool z.2.2.2.2.2.2.2.2.2.2.1,.own 4,.own 5,.own 6,.i z.2.2.2.2.2.2.2.2.2.2.2.1,.i z.2.2.2.2.2.2.2.2.2.2.2.2.1],.box [.i z.2.2.2.2.2.2.2.2.2.2.2.2.2.1,.i z.2.2.2.2.2.2.2.2.2.2.2.2.2.2.1,.i z.2.2.2.2.2.2.2.2.2.2.2.2.2.2.2.1,.i z.2.2.2.2.2.2.2.2.2.2.2.2.2.2.2.2.1,.i z.2.2.2.2.2.2.2.2.2.2.2.2.2.2.2.2.2.1,.own 2,.own 3,.bool z.2.2.2.2.2.2.2.2.2.2.2.2.2.2.2.2.2.2.1,.str z.2.2.2.2.2.2.2.2.2.2.2.2.2.2.2.2.2.2.2.1,.str z.2.2.2.2.2.2.2.2.2.2.2.2.2.2.2.2.2.2.2.2.1,.bool z.2.2.2.2.2.2.2.2.2.2.2.2.2.2.2.2.2.2.2.2.2.1,.own 4,.own 5,.own 6,.i z.2.2.2.2.2.2.2.2.2.2.2.2.2.2.2.2.2.2.2.2.2.2.1,.i z.2.2.2.2.2.2.2.2.2.2.2.2.2.2.2.2.2.2.2.2.2.2.2.1],.arr tRange z.2.2.2.2.2.2.2.2.2.2.2.2.2.2.2.2.2.2.2.2.2.2.2.2.1,.arr tWrite z.2.2.2.2.2.2.2.2.2.2.2.2.2.2.2.2.2.2.2.2.2.2.2.2.2.1,.arr tVersion z.2.2.2.2.2.2.2.2.2.2.2.2.2.2.2.2.2.2.2.2.2.2.2.2.2.2.1,.dep tTxn z.2.2.2.2.2.2.2.2.2.2.2.2.2.2.2.2.2.2.2.2.2.2.2.2.2.2.2.1 0,.dep tTxn z.2.2.2.2.2.2.2.2.2.2.2.2.2.2.2.2.2.2.2.2.2.2.2.2.2.2.2.2 0]) (Sum.elim (fun z=>k .ret [.str z.1,.bp 0 0,.bool z.2.1,.bp 1 0] [.box [.i z.2.2.1,.i z.2.2.2.1,.i z.2.2.2.2.1,.i z.2.2.2.2.2.1,.i z.2.2.2.2.2.2.1,.own 2,.own 3,.bool z.2.2.2.2.2.2.2.1,.str z.2.2.2.2.2.2.2.2.1,.str z.2.2.2.2.2.2.2.2.2.1,.bool z.2.2.2.2.2.2.2.2.2.2.1,.own 4,.own 5,.own 6,.i z.2.2.2.2.2.2.2.2.2.2.2.1,.i z.2.2.2.2.2.2.2.2.2.2.2.2.1],.box [.i z.2.2.2.2.2.2.2.2.2.2.2.2.2.1,.i z.2.2.2.2.2.2.2.2.2.2.2.2.2.2.1,.i z.2.2.2.2.2.2.2.2.2.2.2.2.2.2.2.1,.i z.2.2.2.2.2.2.2.2.2.2.2.2.2.2.2.2.1,.i z.2.2.2.2.2.2.2.2.2.2.2.2.2.2.2.2.2.1,.own 7,.own 8,.bool z.2.2.2.2.2.2.2.2.2.2.2.2.2.2.2.2.2.2.1,.str z.2.2.2.2.2.2.2.2.2.2.2.2.2.2.2.2.2.2.2.1,.str z.2.2.2.2.2.2.2.2.2.2.2.2.2.2.2.2.2.2.2.2.1,.bool z.2.2.2.2.2.2.2.2.2.2.2.2.2.2.2.2.2.2.2.2.2.1,.own 9,.own 10,.own 11,.i z.2.2.2.2.2.2.2.2.2.2.2.2.2.2.2.2.2.2.2.2.2.2.1,.i z.2.2.2.2.2.2.2.2.2.2.2.2.2.2.2.2.2.2.2.2.2.2.2.1],.arr tRange z.2.2.2.2.2.2.2.2.2.2.2.2.2.2.2.2.2.2.2.2.2.2.2.2.1,.arr tWrite z.2.2.2.2.2.2.2.2.2.2.2.2.2.2.2.2.2.2.2.2.2.2.2.2.2.1,.arr tVersion z.2.2.2.2.2.2.2.2.2.2.2.2.2.2.2.2.2.2.2.2.2.2.2.2.2.2.1,.dep tTxn z.2.2.2.2.2.2.2.2.2.2.2.2.2.2.2.2.2.2.2.2.2.2.2.2.2.2.2.1 0,.dep tTxn z.2.2.2.2.2.2.2.2.2.2.2.2.2.2.2.2.2.2.2.2.2.2.2.2.2.2.2.2.1 0,.arr tRange z.2.2.2.2.2.2.2.2.2.2.2.2.2.2.2.2.2.2.2.2.2.2.2.2.2.2.2.2.2.1,.arr tWrite z.2.2.2.2.2.2.2.2.2.2.2.2.2.2.2.2.2.2.2.2.2.2.2.2.2.2.2.2.2.2.1,.arr tVersion z.2.2.2.2.2.2.2.2.2.2.2.2.2.2.2.2.2.2.2.2.2.2.2.2.2.2.2.2.2.2.2.1,.arr tTxn z.2.2.2.2.2.2.2.2.2.2.2.2.2.2.2.2.2.2.2.2.2.2.2.2.2.2.2.2.2.2.2.2.1,.arr tTxn z.2.2.2.2.2.2.2.2.2.2.2.2.2.2.2.2.2.2.2.2.2.2.2.2.2.2.2.2.2.2.2.2.2]) (fun z=>k .ret [.str z.1,.bp 0 0,.bool z.2.1,.bp 1 0] [.box [.i z.2.2.1,.i z.2.2.2.1,.i z.2.2.2.2.1,.i z.2.2.2.2.2.1,.i z.2.2.2.2.2.2.1,.own 2,.own 3,.bool z.2.2.2.2.2.2.2.1,.str z.2.2.2.2.2.2.2.2.1,.str z.2.2.2.2.2.2.2.2.2.1,.bool z.2.2.2.2.2.2.2.2.2.2.1,.own 4,.own 5,.own 6,.i z.2.2.2.2.2.2.2.2.2.2.2.1,.i z.2.2.2.2.2.2.2.2.2.2.2.2.1],.box [.i z.2.2.2.2.2.2.2.2.2.2.2.2.2.1,.i z.2.2.2.2.2.2.2.2.2.2.2.2.2.2.1,.i z.2.2.2.2.2.2.2.2.2.2.2.2.2.2.2.1,.i z.2.2.2.2.2.2.2.2.2.2.2.2.2.2.2.2.1,.i z.2.2.2.2.2.2.2.2.2.2.2.2.2.2.2.2.2.1,.own 2,.own 3,.bool z.2.2.2.2.2.2.2.2.2.2.2.2.2.2.2.2.2.2.1,.str z.2.2.2.2.2.2.2.2.2.2.2.2.2.2.2.2.2.2.2.1,.str z.2.2.2.2.2.2.2.2.2.2.2.2.2.2.2.2.2.2.2.2.1,.bool z.2.2.2.2.2.2.2.2.2.2.2.2.2.2.2.2.2.2.2.2.2.1,.own 4,.own 5,.own 6,.i z.2.2.2.2.2.2.2.2.2.2.2.2.2.2.2.2.2.2.2.2.2.2.1,.i z.2.2.2.2.2.2.2.2.2.2.2.2.2.2.2.2.2.2.2.2.2.2.2.1],.arr tRange z.2.2.2.2.2.2.2.2.2.2.2.2.2.2.2.2.2.2.2.2.2.2.2.2.1,.arr tWrite z.2.2.2.2.2.2.2.2.2.2.2.2.2.2.2.2.2.2.2.2.2.2.2.2.2.1,.arr tVersion z.2.2.2.2.2.2.2.2.2.2.2.2.2.2.2.2.2.2.2.2.2.2.2.2.2.2.1,.arr tTxn z.2.2.2.2.2.2.2.2.2.2.2.2.2.2.2.2.2.2.2.2.2.2.2.2.2.2.2.1,.arr tTxn z.2.2.2.2.2.2.2.2.2.2.2.2.2.2.2.2.2.2.2.2.2.2.2.2.2.2.2.2])))))
   (none))⟩
 |5000004=>some (ctS [0,2,3,4] [none,none,none,none,none,none,none,none,none,some tRange,some tWrite,none,none,none,none,some tVersion,some tTxn,some tTxn] [.str,.bp 0 0,.bool,.str] [.box [.i,.i,.i,.i,.i,.own 1,.own 2,.bool,.str,.str,.bool,.own 3,.own 4,.own 5,.i,.i],.arr tRange,.arr tWrite,.arr tVersion,.dep tTxn 0,.dep tTxn 0] vfj (fun p q=>(p.1,p.2.2.1,p.2.2.2.1,q.1.1,q.1.2.1,q.1.2.2.1,q.1.2.2.2.1,q.1.2.2.2.2.1,q.1.2.2.2.2.2.2.2.1,q.1.2.2.2.2.2.2.2.2.1,q.1.2.2.2.2.2.2.2.2.2.1,q.1.2.2.2.2.2.2.2.2.2.2.1,q.1.2.2.2.2.2.2.2.2.2.2.2.2.2.2.1,q.1.2.2.2.2.2.2.2.2.2.2.2.2.2.2.2.1,q.2.1,q.2.2.1,q.2.2.2.1,q.2.2.2.2.1,q.2.2.2.2.2.1)) (fun k=>(Sum.elim (onE vpw k) (onE vpf k))))
 |3000000=>some ⟨[],[none,none,none,none,none,some tRange,some tWrite,none,none,none,none,some tVersion,some tTxn,some tTxn],fun _ _ _=>none⟩
 |_=>none
def vkb:(q40T⊕q40T)→List AV:=(Sum.elim (fun x=>[.str x.1,.bp 0 0,.bool x.2.1,.bp 1 0]) (fun x=>[.str x.1,.bp 0 0,.bool x.2.1,.bp 1 0]))
def vls:(q40T⊕q40T)→St:=(Sum.elim (fun x=>[.box [.i x.2.2.1,.i x.2.2.2.1,.i x.2.2.2.2.1,.i x.2.2.2.2.2.1,.i x.2.2.2.2.2.2.1,.own 2,.own 3,.bool x.2.2.2.2.2.2.2.1,.str x.2.2.2.2.2.2.2.2.1,.str x.2.2.2.2.2.2.2.2.2.1,.bool x.2.2.2.2.2.2.2.2.2.2.1,.own 4,.own 5,.own 6,.i x.2.2.2.2.2.2.2.2.2.2.2.1,.i x.2.2.2.2.2.2.2.2.2.2.2.2.1],.box [.i x.2.2.2.2.2.2.2.2.2.2.2.2.2.1,.i x.2.2.2.2.2.2.2.2.2.2.2.2.2.2.1,.i x.2.2.2.2.2.2.2.2.2.2.2.2.2.2.2.1,.i x.2.2.2.2.2.2.2.2.2.2.2.2.2.2.2.2.1,.i x.2.2.2.2.2.2.2.2.2.2.2.2.2.2.2.2.2.1,.own 7,.own 8,.bool x.2.2.2.2.2.2.2.2.2.2.2.2.2.2.2.2.2.2.1,.str x.2.2.2.2.2.2.2.2.2.2.2.2.2.2.2.2.2.2.2.1,.str x.2.2.2.2.2.2.2.2.2.2.2.2.2.2.2.2.2.2.2.2.1,.bool x.2.2.2.2.2.2.2.2.2.2.2.2.2.2.2.2.2.2.2.2.2.1,.own 9,.own 10,.own 11,.i x.2.2.2.2.2.2.2.2.2.2.2.2.2.2.2.2.2.2.2.2.2.2.1,.i x.2.2.2.2.2.2.2.2.2.2.2.2.2.2.2.2.2.2.2.2.2.2.2.1],.arr tRange x.2.2.2.2.2.2.2.2.2.2.2.2.2.2.2.2.2.2.2.2.2.2.2.2.1,.arr tWrite x.2.2.2.2.2.2.2.2.2.2.2.2.2.2.2.2.2.2.2.2.2.2.2.2.2.1,.arr tVersion x.2.2.2.2.2.2.2.2.2.2.2.2.2.2.2.2.2.2.2.2.2.2.2.2.2.2.1,.dep tTxn x.2.2.2.2.2.2.2.2.2.2.2.2.2.2.2.2.2.2.2.2.2.2.2.2.2.2.2.1 0,.dep tTxn x.2.2.2.2.2.2.2.2.2.2.2.2.2.2.2.2.2.2.2.2.2.2.2.2.2.2.2.2.1 0,.arr tRange x.2.2.2.2.2.2.2.2.2.2.2.2.2.2.2.2.2.2.2.2.2.2.2.2.2.2.2.2.2.1,.arr tWrite x.2.2.2.2.2.2.2.2.2.2.2.2.2.2.2.2.2.2.2.2.2.2.2.2.2.2.2.2.2.2.1,.arr tVersion x.2.2.2.2.2.2.2.2.2.2.2.2.2.2.2.2.2.2.2.2.2.2.2.2.2.2.2.2.2.2.2.1,.dep tTxn x.2.2.2.2.2.2.2.2.2.2.2.2.2.2.2.2.2.2.2.2.2.2.2.2.2.2.2.2.2.2.2.2.1 0,.dep tTxn x.2.2.2.2.2.2.2.2.2.2.2.2.2.2.2.2.2.2.2.2.2.2.2.2.2.2.2.2.2.2.2.2.2 0]) (fun x=>[.box [.i x.2.2.1,.i x.2.2.2.1,.i x.2.2.2.2.1,.i x.2.2.2.2.2.1,.i x.2.2.2.2.2.2.1,.own 2,.own 3,.bool x.2.2.2.2.2.2.2.1,.str x.2.2.2.2.2.2.2.2.1,.str x.2.2.2.2.2.2.2.2.2.1,.bool x.2.2.2.2.2.2.2.2.2.2.1,.own 4,.own 5,.own 6,.i x.2.2.2.2.2.2.2.2.2.2.2.1,.i x.2.2.2.2.2.2.2.2.2.2.2.2.1],.box [.i x.2.2.2.2.2.2.2.2.2.2.2.2.2.1,.i x.2.2.2.2.2.2.2.2.2.2.2.2.2.2.1,.i x.2.2.2.2.2.2.2.2.2.2.2.2.2.2.2.1,.i x.2.2.2.2.2.2.2.2.2.2.2.2.2.2.2.2.1,.i x.2.2.2.2.2.2.2.2.2.2.2.2.2.2.2.2.2.1,.own 7,.own 8,.bool x.2.2.2.2.2.2.2.2.2.2.2.2.2.2.2.2.2.2.1,.str x.2.2.2.2.2.2.2.2.2.2.2.2.2.2.2.2.2.2.2.1,.str x.2.2.2.2.2.2.2.2.2.2.2.2.2.2.2.2.2.2.2.2.1,.bool x.2.2.2.2.2.2.2.2.2.2.2.2.2.2.2.2.2.2.2.2.2.1,.own 9,.own 10,.own 11,.i x.2.2.2.2.2.2.2.2.2.2.2.2.2.2.2.2.2.2.2.2.2.2.1,.i x.2.2.2.2.2.2.2.2.2.2.2.2.2.2.2.2.2.2.2.2.2.2.2.1],.arr tRange x.2.2.2.2.2.2.2.2.2.2.2.2.2.2.2.2.2.2.2.2.2.2.2.2.1,.arr tWrite x.2.2.2.2.2.2.2.2.2.2.2.2.2.2.2.2.2.2.2.2.2.2.2.2.2.1,.arr tVersion x.2.2.2.2.2.2.2.2.2.2.2.2.2.2.2.2.2.2.2.2.2.2.2.2.2.2.1,.dep tTxn x.2.2.2.2.2.2.2.2.2.2.2.2.2.2.2.2.2.2.2.2.2.2.2.2.2.2.2.1 0,.dep tTxn x.2.2.2.2.2.2.2.2.2.2.2.2.2.2.2.2.2.2.2.2.2.2.2.2.2.2.2.2.1 0,.arr tRange x.2.2.2.2.2.2.2.2.2.2.2.2.2.2.2.2.2.2.2.2.2.2.2.2.2.2.2.2.2.1,.arr tWrite x.2.2.2.2.2.2.2.2.2.2.2.2.2.2.2.2.2.2.2.2.2.2.2.2.2.2.2.2.2.2.1,.arr tVersion x.2.2.2.2.2.2.2.2.2.2.2.2.2.2.2.2.2.2.2.2.2.2.2.2.2.2.2.2.2.2.2.1,.arr tTxn x.2.2.2.2.2.2.2.2.2.2.2.2.2.2.2.2.2.2.2.2.2.2.2.2.2.2.2.2.2.2.2.2.1,.arr tTxn x.2.2.2.2.2.2.2.2.2.2.2.2.2.2.2.2.2.2.2.2.2.2.2.2.2.2.2.2.2.2.2.2.2]))
def ves:(q40T⊕(q41T⊕(q40T⊕q41T)))→Out×List AV×St:=(Sum.elim (fun z=>(.ret,[.str z.1,.bp 0 0,.bool z.2.1,.bp 1 0],[.box [.i z.2.2.1,.i z.2.2.2.1,.i z.2.2.2.2.1,.i z.2.2.2.2.2.1,.i z.2.2.2.2.2.2.1,.own 2,.own 3,.bool z.2.2.2.2.2.2.2.1,.str z.2.2.2.2.2.2.2.2.1,.str z.2.2.2.2.2.2.2.2.2.1,.bool z.2.2.2.2.2.2.2.2.2.2.1,.own 4,.own 5,.own 6,.i z.2.2.2.2.2.2.2.2.2.2.2.1,.i z.2.2.2.2.2.2.2.2.2.2.2.2.1],.box [.i z.2.2.2.2.2.2.2.2.2.2.2.2.2.1,.i z.2.2.2.2.2.2.2.2.2.2.2.2.2.2.1,.i z.2.2.2.2.2.2.2.2.2.2.2.2.2.2.2.1,.i z.2.2.2.2.2.2.2.2.2.2.2.2.2.2.2.2.1,.i z.2.2.2.2.2.2.2.2.2.2.2.2.2.2.2.2.2.1,.own 7,.own 8,.bool z.2.2.2.2.2.2.2.2.2.2.2.2.2.2.2.2.2.2.1,.str z.2.2.2.2.2.2.2.2.2.2.2.2.2.2.2.2.2.2.2.1,.str z.2.2.2.2.2.2.2.2.2.2.2.2.2.2.2.2.2.2.2.2.1,.bool z.2.2.2.2.2.2.2.2.2.2.2.2.2.2.2.2.2.2.2.2.2.1,.own 9,.own 10,.own 11,.i z.2.2.2.2.2.2.2.2.2.2.2.2.2.2.2.2.2.2.2.2.2.2.1,.i z.2.2.2.2.2.2.2.2.2.2.2.2.2.2.2.2.2.2.2.2.2.2.2.1],.arr tRange z.2.2.2.2.2.2.2.2.2.2.2.2.2.2.2.2.2.2.2.2.2.2.2.2.1,.arr tWrite z.2.2.2.2.2.2.2.2.2.2.2.2.2.2.2.2.2.2.2.2.2.2.2.2.2.1,.arr tVersion z.2.2.2.2.2.2.2.2.2.2.2.2.2.2.2.2.2.2.2.2.2.2.2.2.2.2.1,.dep tTxn z.2.2.2.2.2.2.2.2.2.2.2.2.2.2.2.2.2.2.2.2.2.2.2.2.2.2.2.1 0,.dep tTxn z.2.2.2.2.2.2.2.2.2.2.2.2.2.2.2.2.2.2.2.2.2.2.2.2.2.2.2.2.1 0,.arr tRange z.2.2.2.2.2.2.2.2.2.2.2.2.2.2.2.2.2.2.2.2.2.2.2.2.2.2.2.2.2.1,.arr tWrite z.2.2.2.2.2.2.2.2.2.2.2.2.2.2.2.2.2.2.2.2.2.2.2.2.2.2.2.2.2.2.1,.arr tVersion z.2.2.2.2.2.2.2.2.2.2.2.2.2.2.2.2.2.2.2.2.2.2.2.2.2.2.2.2.2.2.2.1,.dep tTxn z.2.2.2.2.2.2.2.2.2.2.2.2.2.2.2.2.2.2.2.2.2.2.2.2.2.2.2.2.2.2.2.2.1 0,.dep tTxn z.2.2.2.2.2.2.2.2.2.2.2.2.2.2.2.2.2.2.2.2.2.2.2.2.2.2.2.2.2.2.2.2.2 0])) (Sum.elim (fun z=>(.ret,[.str z.1,.bp 0 0,.bool z.2.1,.bp 1 0],[.box [.i z.2.2.1,.i z.2.2.2.1,.i z.2.2.2.2.1,.i z.2.2.2.2.2.1,.i z.2.2.2.2.2.2.1,.own 2,.own 3,.bool z.2.2.2.2.2.2.2.1,.str z.2.2.2.2.2.2.2.2.1,.str z.2.2.2.2.2.2.2.2.2.1,.bool z.2.2.2.2.2.2.2.2.2.2.1,.own 4,.own 5,.own 6,.i z.2.2.2.2.2.2.2.2.2.2.2.1,.i z.2.2.2.2.2.2.2.2.2.2.2.2.1],.box [.i z.2.2.2.2.2.2.2.2.2.2.2.2.2.1,.i z.2.2.2.2.2.2.2.2.2.2.2.2.2.2.1,.i z.2.2.2.2.2.2.2.2.2.2.2.2.2.2.2.1,.i z.2.2.2.2.2.2.2.2.2.2.2.2.2.2.2.2.1,.i z.2.2.2.2.2.2.2.2.2.2.2.2.2.2.2.2.2.1,.own 2,.own 3,.bool z.2.2.2.2.2.2.2.2.2.2.2.2.2.2.2.2.2.2.1,.str z.2.2.2.2.2.2.2.2.2.2.2.2.2.2.2.2.2.2.2.1,.str z.2.2.2.2.2.2.2.2.2.2.2.2.2.2.2.2.2.2.2.2.1,.bool z.2.2.2.2.2.2.2.2.2.2.2.2.2.2.2.2.2.2.2.2.2.1,.own 4,.own 5,.own 6,.i z.2.2.2.2.2.2.2.2.2.2.2.2.2.2.2.2.2.2.2.2.2.2.1,.i z.2.2.2.2.2.2.2.2.2.2.2.2.2.2.2.2.2.2.2.2.2.2.2.1],.arr tRange z.2.2.2.2.2.2.2.2.2.2.2.2.2.2.2.2.2.2.2.2.2.2.2.2.1,.arr tWrite z.2.2.2.2.2.2.2.2.2.2.2.2.2.2.2.2.2.2.2.2.2.2.2.2.2.1,.arr tVersion z.2.2.2.2.2.2.2.2.2.2.2.2.2.2.2.2.2.2.2.2.2.2.2.2.2.2.1,.dep tTxn z.2.2.2.2.2.2.2.2.2.2.2.2.2.2.2.2.2.2.2.2.2.2.2.2.2.2.2.1 0,.dep tTxn z.2.2.2.2.2.2.2.2.2.2.2.2.2.2.2.2.2.2.2.2.2.2.2.2.2.2.2.2 0])) (Sum.elim (fun z=>(.ret,[.str z.1,.bp 0 0,.bool z.2.1,.bp 1 0],[.box [.i z.2.2.1,.i z.2.2.2.1,.i z.2.2.2.2.1,.i z.2.2.2.2.2.1,.i z.2.2.2.2.2.2.1,.own 2,.own 3,.bool z.2.2.2.2.2.2.2.1,.str z.2.2.2.2.2.2.2.2.1,.str z.2.2.2.2.2.2.2.2.2.1,.bool z.2.2.2.2.2.2.2.2.2.2.1,.own 4,.own 5,.own 6,.i z.2.2.2.2.2.2.2.2.2.2.2.1,.i z.2.2.2.2.2.2.2.2.2.2.2.2.1],.box [.i z.2.2.2.2.2.2.2.2.2.2.2.2.2.1,.i z.2.2.2.2.2.2.2.2.2.2.2.2.2.2.1,.i z.2.2.2.2.2.2.2.2.2.2.2.2.2.2.2.1,.i z.2.2.2.2.2.2.2.2.2.2.2.2.2.2.2.2.1,.i z.2.2.2.2.2.2.2.2.2.2.2.2.2.2.2.2.2.1,.own 7,.own 8,.bool z.2.2.2.2.2.2.2.2.2.2.2.2.2.2.2.2.2.2.1,.str z.2.2.2.2.2.2.2.2.2.2.2.2.2.2.2.2.2.2.2.1,.str z.2.2.2.2.2.2.2.2.2.2.2.2.2.2.2.2.2.2.2.2.1,.bool z.2.2.2.2.2.2.2.2.2.2.2.2.2.2.2.2.2.2.2.2.2.1,.own 9,.own 10,.own 11,.i z.2.2.2.2.2.2.2.2.2.2.2.2.2.2.2.2.2.2.2.2.2.2.1,.i z.2.2.2.2.2.2.2.2.2.2.2.2.2.2.2.2.2.2.2.2.2.2.2.1],.arr tRange z.2.2.2.2.2.2.2.2.2.2.2.2.2.2.2.2.2.2.2.2.2.2.2.2.1,.arr tWrite z.2.2.2.2.2.2.2.2.2.2.2.2.2.2.2.2.2.2.2.2.2.2.2.2.2.1,.arr tVersion z.2.2.2.2.2.2.2.2.2.2.2.2.2.2.2.2.2.2.2.2.2.2.2.2.2.2.1,.dep tTxn z.2.2.2.2.2.2.2.2.2.2.2.2.2.2.2.2.2.2.2.2.2.2.2.2.2.2.2.1 0,.dep tTxn z.2.2.2.2.2.2.2.2.2.2.2.2.2.2.2.2.2.2.2.2.2.2.2.2.2.2.2.2.1 0,.arr tRange z.2.2.2.2.2.2.2.2.2.2.2.2.2.2.2.2.2.2.2.2.2.2.2.2.2.2.2.2.2.1,.arr tWrite z.2.2.2.2.2.2.2.2.2.2.2.2.2.2.2.2.2.2.2.2.2.2.2.2.2.2.2.2.2.2.1,.arr tVersion z.2.2.2.2.2.2.2.2.2.2.2.2.2.2.2.2.2.2.2.2.2.2.2.2.2.2.2.2.2.2.2.1,.arr tTxn z.2.2.2.2.2.2.2.2.2.2.2.2.2.2.2.2.2.2.2.2.2.2.2.2.2.2.2.2.2.2.2.2.1,.arr tTxn z.2.2.2.2.2.2.2.2.2.2.2.2.2.2.2.2.2.2.2.2.2.2.2.2.2.2.2.2.2.2.2.2.2])) (fun z=>(.ret,[.str z.1,.bp 0 0,.bool z.2.1,.bp 1 0],[.box [.i z.2.2.1,.i z.2.2.2.1,.i z.2.2.2.2.1,.i z.2.2.2.2.2.1,.i z.2.2.2.2.2.2.1,.own 2,.own 3,.bool z.2.2.2.2.2.2.2.1,.str z.2.2.2.2.2.2.2.2.1,.str z.2.2.2.2.2.2.2.2.2.1,.bool z.2.2.2.2.2.2.2.2.2.2.1,.own 4,.own 5,.own 6,.i z.2.2.2.2.2.2.2.2.2.2.2.1,.i z.2.2.2.2.2.2.2.2.2.2.2.2.1],.box [.i z.2.2.2.2.2.2.2.2.2.2.2.2.2.1,.i z.2.2.2.2.2.2.2.2.2.2.2.2.2.2.1,.i z.2.2.2.2.2.2.2.2.2.2.2.2.2.2.2.1,.i z.2.2.2.2.2.2.2.2.2.2.2.2.2.2.2.2.1,.i z.2.2.2.2.2.2.2.2.2.2.2.2.2.2.2.2.2.1,.own 2,.own 3,.bool z.2.2.2.2.2.2.2.2.2.2.2.2.2.2.2.2.2.2.1,.str z.2.2.2.2.2.2.2.2.2.2.2.2.2.2.2.2.2.2.2.1,.str z.2.2.2.2.2.2.2.2.2.2.2.2.2.2.2.2.2.2.2.2.1,.bool z.2.2.2.2.2.2.2.2.2.2.2.2.2.2.2.2.2.2.2.2.2.1,.own 4,.own 5,.own 6,.i z.2.2.2.2.2.2.2.2.2.2.2.2.2.2.2.2.2.2.2.2.2.2.1,.i z.2.2.2.2.2.2.2.2.2.2.2.2.2.2.2.2.2.2.2.2.2.2.2.1],.arr tRange z.2.2.2.2.2.2.2.2.2.2.2.2.2.2.2.2.2.2.2.2.2.2.2.2.1,.arr tWrite z.2.2.2.2.2.2.2.2.2.2.2.2.2.2.2.2.2.2.2.2.2.2.2.2.2.1,.arr tVersion z.2.2.2.2.2.2.2.2.2.2.2.2.2.2.2.2.2.2.2.2.2.2.2.2.2.2.1,.arr tTxn z.2.2.2.2.2.2.2.2.2.2.2.2.2.2.2.2.2.2.2.2.2.2.2.2.2.2.2.1,.arr tTxn z.2.2.2.2.2.2.2.2.2.2.2.2.2.2.2.2.2.2.2.2.2.2.2.2.2.2.2.2])))))
theorem vrj (x:(q40T⊕q40T)):exec G31.shallow ⟨0,69,vhy⟩ (vdu Tryz.f9 5000013) (vn6 ⟨0,69,vhy⟩ [0,2,3,6] [none,none,none,none,none,none,none,none,none,some tRange,some tWrite,none,none,none,none,some tVersion,some tTxn,some tTxn,none,none,none,none,none,none,none,some tRange,some tWrite,none,none,none,none,some tVersion,some tTxn,some tTxn]) (vha (vf9 69) [0,2,3,6] (vkb x)) (vls x)=vbl x (fun z=>some ⟨(ves z).1,(ves z).2.1,(ves z).2.2⟩):=by
 rcases x with x|x<;>kernel_rfl
theorem v15:∀sp,(vhy 5000013)=some sp→wl8 G31.shallow ⟨0,69,vhy⟩ sp (vdu Tryz.f9 5000013):=by
 intro sp hsp vals st k r h
 cases hsp
 dsimp only at h
 rcases vb6 h with⟨p,q,rfl,rfl,h⟩|h
 ·exact vt0 (fun x=>(n92n_jp5000013 x).p) vkb vls ves vrj (.inl (p.1,p.2.2.1,q.1.1,q.1.2.1,q.1.2.2.1,q.1.2.2.2.1,q.1.2.2.2.2.1,q.1.2.2.2.2.2.2.2.1,q.1.2.2.2.2.2.2.2.2.1,q.1.2.2.2.2.2.2.2.2.2.1,q.1.2.2.2.2.2.2.2.2.2.2.1,q.1.2.2.2.2.2.2.2.2.2.2.2.2.2.2.1,q.1.2.2.2.2.2.2.2.2.2.2.2.2.2.2.2.1,q.2.1.1,q.2.1.2.1,q.2.1.2.2.1,q.2.1.2.2.2.1,q.2.1.2.2.2.2.1,q.2.1.2.2.2.2.2.2.2.1,q.2.1.2.2.2.2.2.2.2.2.1,q.2.1.2.2.2.2.2.2.2.2.2.1,q.2.1.2.2.2.2.2.2.2.2.2.2.1,q.2.1.2.2.2.2.2.2.2.2.2.2.2.2.2.2.1,q.2.1.2.2.2.2.2.2.2.2.2.2.2.2.2.2.2.1,q.2.2.1,q.2.2.2.1,q.2.2.2.2.1,q.2.2.2.2.2.1,q.2.2.2.2.2.2.1,q.2.2.2.2.2.2.2.1,q.2.2.2.2.2.2.2.2.1,q.2.2.2.2.2.2.2.2.2.1,q.2.2.2.2.2.2.2.2.2.2.1,q.2.2.2.2.2.2.2.2.2.2.2.1)) _ k r (fun z=>by rcases z with z|z|z|z<;>rfl) h
 rcases vb6 h with⟨p,q,rfl,rfl,h⟩|h
 ·exact vt0 (fun x=>(n92n_jp5000013 x).p) vkb vls ves vrj (.inr (p.1,p.2.2.1,q.1.1,q.1.2.1,q.1.2.2.1,q.1.2.2.2.1,q.1.2.2.2.2.1,q.1.2.2.2.2.2.2.2.1,q.1.2.2.2.2.2.2.2.2.1,q.1.2.2.2.2.2.2.2.2.2.1,q.1.2.2.2.2.2.2.2.2.2.2.1,q.1.2.2.2.2.2.2.2.2.2.2.2.2.2.2.1,q.1.2.2.2.2.2.2.2.2.2.2.2.2.2.2.2.1,q.2.1.1,q.2.1.2.1,q.2.1.2.2.1,q.2.1.2.2.2.1,q.2.1.2.2.2.2.1,q.2.1.2.2.2.2.2.2.2.1,q.2.1.2.2.2.2.2.2.2.2.1,q.2.1.2.2.2.2.2.2.2.2.2.1,q.2.1.2.2.2.2.2.2.2.2.2.2.1,q.2.1.2.2.2.2.2.2.2.2.2.2.2.2.2.2.1,q.2.1.2.2.2.2.2.2.2.2.2.2.2.2.2.2.2.1,q.2.2.1,q.2.2.2.1,q.2.2.2.2.1,q.2.2.2.2.2.1,q.2.2.2.2.2.2.1,q.2.2.2.2.2.2.2.1,q.2.2.2.2.2.2.2.2.1,q.2.2.2.2.2.2.2.2.2.1,q.2.2.2.2.2.2.2.2.2.2.1,q.2.2.2.2.2.2.2.2.2.2.2.1)) _ k r (fun z=>by rcases z with z|z|z|z<;>rfl) h
 cases h
theorem v0w:CtAt G31.shallow ⟨0,69,vhy⟩ Tryz.f9 5000004:=
 vbu rfl (fun x=>(n92n_jp5000004 x).p) v1h v1w (Sum.elim (vpw) (vpf)) (fun _ _=>⟨rfl,rfl⟩) (fun k z=>by rcases z with z|z<;>rfl) (fun x=>by kernel_rfl)
theorem w2y:vad Tryz.prog 9 wxn:=
 vay G31_ok.shallow follows (Tryz.f9.body.getD .skip) Tryz.func9 (by kernel_rfl) fun p q=>⟨vhy,(n92n_p _).p.map2 _ _,by rw [wme];kernel_rfl,vac (ids:=[5000013,5000004]) (by kernel_rfl) (by kernel_rfl) ⟨v15,⟨v0w,trivial⟩⟩⟩
def G32:Glob:=G31.add 9 wxn
theorem G32_ok:GlobOk Tryz.prog G32:=G31_ok.add ⟨Tryz.f9,Tryz.func9,by kernel_rfl,by kernel_rfl⟩ w2y
def wdt:(Int×ByteArray×Int×Int)→List AV:=fun x=>[.int .u32 x.1,.str x.2.1,.i x.2.2.1,.i x.2.2.2]
def wcv:(Int×ByteArray×Int×Int)→St:=fun x=>[]
def wcf:(Int×ByteArray×Int)→List AV:=fun x=>[.int .u32 x.1,.str x.2.1,.i x.2.2]
def wd1:(Int×ByteArray×Int)→St:=fun x=>[]
def vue:Nat→Option LoopSpec
 |2=>some (lpS [0,1,5,6] [] [.int .u32,.str,.i,.i] [] vy0 (fun p q=>(p.1,p.2.1,p.2.2.1,p.2.2.2.1)) (fun k=>(onE (exZ (.exit 2) wdt wcv) k)))
 |0=>some (lpS [0,1,5] [] [.int .u32,.str,.i] [] vuv (fun p q=>(p.1,p.2.1,p.2.2.1)) (fun k=>(onE (exZ (.exit 0) wcf wd1) k)))
 |_=>none
theorem wrx:LpAt G32 ⟨0,33,vue⟩ Tryz.f259 2:=
 vat rfl (fun x=>(n15n_bp2 x).p) wdt wcv (exZ (.exit 2) wdt wcv) (fun _ _=>⟨rfl,rfl⟩) (fun z=>by(intro h;cases h)) (fun _ _=>rfl) (fun x=>by kernel_rfl)
theorem wu3:LpAt G32 ⟨0,33,vue⟩ Tryz.f259 0:=
 vat rfl (fun x=>(n15n_bp0 x).p) wcf wd1 (exZ (.exit 0) wcf wd1) (fun _ _=>⟨rfl,rfl⟩) (fun z=>by(intro h;cases h)) (fun _ _=>rfl) (fun x=>by kernel_rfl)
theorem w26:vad Tryz.prog 259 wxc:=
 vay G32_ok follows (Tryz.f259.body.getD .skip) Tryz.func259 (by kernel_rfl) fun p q=>⟨vue,(n15n_p _ _).p.map _,by rw [wqi];kernel_rfl,vac (ids:=[2,0]) (by kernel_rfl) (by kernel_rfl) ⟨wrx,⟨wu3,trivial⟩⟩⟩
def G33:Glob:=G32.add 259 wxc
theorem G33_ok:GlobOk Tryz.prog G33:=G32_ok.add ⟨Tryz.f259,Tryz.func259,by kernel_rfl,by kernel_rfl⟩ w26
def wj0:Nat→Option LoopSpec
 |_=>none
theorem w1k:vad Tryz.prog 227 wxl:=
 vay G33_ok follows (Tryz.f227.body.getD .skip) Tryz.func227 (by kernel_rfl) fun p q=>⟨wj0,(n16n_p _).p.map _,by rw [wo1];kernel_rfl,vac (ids:=[]) (by kernel_rfl) (by kernel_rfl) trivial⟩
def G34:Glob:=G33.add 227 wxl
theorem G34_ok:GlobOk Tryz.prog G34:=G33_ok.add ⟨Tryz.f227,Tryz.func227,by kernel_rfl,by kernel_rfl⟩ w1k
def wkf:Nat→Option LoopSpec
 |_=>none
theorem w39:vad Tryz.prog 155 wx3:=
 vay G34_ok follows (Tryz.f155.body.getD .skip) Tryz.func155 (by kernel_rfl) fun p q=>⟨wkf,(n13n_p _).p.map _,by rw [wmv];kernel_rfl,vac (ids:=[]) (by kernel_rfl) (by kernel_rfl) trivial⟩
def G35:Glob:=G34.add 155 wx3
theorem G35_ok:GlobOk Tryz.prog G35:=G34_ok.add ⟨Tryz.f155,Tryz.func155,by kernel_rfl,by kernel_rfl⟩ w39
def wkj:Nat→Option LoopSpec
 |_=>none
theorem w1c:vad Tryz.prog 72 wxz:=
 vay G35_ok follows (Tryz.f72.body.getD .skip) Tryz.func72 (by kernel_rfl) fun p q=>⟨wkj,(n19n_p _).p.map _,by rw [woa];kernel_rfl,vac (ids:=[]) (by kernel_rfl) (by kernel_rfl) trivial⟩
def G36:Glob:=G35.add 72 wxz
theorem G36_ok:GlobOk Tryz.prog G36:=G35_ok.add ⟨Tryz.f72,Tryz.func72,by kernel_rfl,by kernel_rfl⟩ w1c
def wj6:Nat→Option LoopSpec
 |_=>none
theorem w09:vad Tryz.prog 128 wx0:=
 vay G36_ok follows (Tryz.f128.body.getD .skip) Tryz.func128 (by kernel_rfl) fun p q=>⟨wj6,(n56n_p _ _ _).p.map _,by rw [wob];kernel_rfl,vac (ids:=[]) (by kernel_rfl) (by kernel_rfl) trivial⟩
def G37:Glob:=G36.add 128 wx0
theorem G37_ok:GlobOk Tryz.prog G37:=G36_ok.add ⟨Tryz.f128,Tryz.func128,by kernel_rfl,by kernel_rfl⟩ w09
def wd7:(Int×(List Int))→List AV:=fun x=>[.i x.1,.own 0]
def wd5:(Int×(List Int))→St:=fun x=>[.arr (.int .u8) x.2]
def v34:Nat→Option LoopSpec
 |0=>some (lpS [0,4] [none,some (.int .u8)] [.i,.own 0] [.arr (.int .u8)] vkr (fun p q=>(p.1,q.1)) (fun k=>(onE (exZ (.exit 0) wd7 wd5) k)))
 |_=>none
theorem wup:LpAt G37 ⟨0,25,v34⟩ Tryz.f260 0:=
 vat rfl (fun x=>(n20n_bp0 x).p) wd7 wd5 (exZ (.exit 0) wd7 wd5) (fun _ _=>⟨rfl,rfl⟩) (fun z=>by(intro h;cases h)) (fun _ _=>rfl) (fun x=>by kernel_rfl)
theorem w3d:vad Tryz.prog 260 wwo:=
 vay G37_ok follows (Tryz.f260.body.getD .skip) Tryz.func260 (by kernel_rfl) fun p q=>⟨v34,(n20n_p _).p.map _,by rw [wfy];kernel_rfl,vac (ids:=[0]) (by kernel_rfl) (by kernel_rfl) ⟨wup,trivial⟩⟩
def G38:Glob:=G37.add 260 wwo
theorem G38_ok:GlobOk Tryz.prog G38:=G37_ok.add ⟨Tryz.f260,Tryz.func260,by kernel_rfl,by kernel_rfl⟩ w3d
def vep:q53T→List AV:=fun x=>[.str x.1,.i x.2.1,.i x.2.2.1,.i x.2.2.2.1,.bool x.2.2.2.2.1,.i x.2.2.2.2.2.1,.i x.2.2.2.2.2.2]
def veq:q53T→St:=fun x=>[]
def v0g:q53T→List AV:=fun x=>[.str x.1,.i x.2.1,.i x.2.2.1,.i x.2.2.2.1,.bool x.2.2.2.2.1,.i x.2.2.2.2.2.1,.i x.2.2.2.2.2.2]
def vxo:q53T→St:=fun x=>[]
def vu4:Nat→Option LoopSpec
 |6000001=>some (ctS [0,1,4,5,6,7,8] [] [.str,.i,.i,.i,.bool,.i,.i] [] vfo (fun p q=>(p.1,p.2.1,p.2.2.1,p.2.2.2.1,p.2.2.2.2.1,p.2.2.2.2.2.1,p.2.2.2.2.2.2.1)) (fun k=>(Sum.elim (onE (exZ .ret vep veq) k) (onE (exZ .norm vep veq) k))))
 |0=>some (lpS [0,1,4,5,6,7,8] [] [.str,.i,.i,.i,.bool,.i,.i] [] vpq (fun p q=>(p.1,p.2.1,p.2.2.1,p.2.2.2.1,p.2.2.2.2.1,p.2.2.2.2.2.1,p.2.2.2.2.2.2.1)) (fun k=>(Sum.elim (onE (exZ (.exit 0) v0g vxo) k) (onE (exZ .ret v0g vxo) k))))
 |_=>none
theorem v1u:CtAt G38 ⟨0,63,vu4⟩ Tryz.f228 6000001:=
 vbu rfl (fun x=>(n10n_jp6000001 x).p) vep veq (Sum.elim ((exZ .ret vep veq)) ((exZ .norm vep veq))) (fun _ _=>⟨rfl,rfl⟩) (fun k z=>by rcases z with z|z<;>rfl) (fun x=>by kernel_rfl)
theorem wta:LpAt G38 ⟨0,63,vu4⟩ Tryz.f228 0:=
 vat rfl (fun x=>(n10n_bp0 x).p) v0g vxo (Sum.elim ((exZ (.exit 0) v0g vxo)) ((exZ .ret v0g vxo))) (fun _ _=>⟨rfl,rfl⟩) (fun z=>by rcases z with z|z<;>(intro h;cases h)) (fun k z=>by rcases z with z|z<;>rfl) (fun x=>by kernel_rfl)
theorem w2d:vad Tryz.prog 228 wxw:=
 vay G38_ok follows (Tryz.f228.body.getD .skip) Tryz.func228 (by kernel_rfl) fun p q=>⟨vu4,(n10n_p _ _).p.map _,by rw [wpl];kernel_rfl,vac (ids:=[6000001,0]) (by kernel_rfl) (by kernel_rfl) ⟨v1u,⟨wta,trivial⟩⟩⟩
def G39:Glob:=G38.add 228 wxw
theorem G39_ok:GlobOk Tryz.prog G39:=G38_ok.add ⟨Tryz.f228,Tryz.func228,by kernel_rfl,by kernel_rfl⟩ w2d
def wkw:Nat→Option LoopSpec
 |_=>none
theorem w32:vad Tryz.prog 156 wwt:=
 vay G39_ok follows (Tryz.f156.body.getD .skip) Tryz.func156 (by kernel_rfl) fun p q=>⟨wkw,(n09n_p _ _).p.map _,by rw [wn1];kernel_rfl,vac (ids:=[]) (by kernel_rfl) (by kernel_rfl) trivial⟩
def G40:Glob:=G39.add 156 wwt
theorem G40_ok:GlobOk Tryz.prog G40:=G39_ok.add ⟨Tryz.f156,Tryz.func156,by kernel_rfl,by kernel_rfl⟩ w32
def wjo:Nat→Option LoopSpec
 |2000001=>some ⟨[0,2,4,6,8,10,12,14,16,18,20,22,24,26,28,30],[],fun _ _ _=>none⟩
 |_=>none
theorem w06:vad Tryz.prog 73 wxk:=
 vay G40_ok follows (Tryz.f73.body.getD .skip) Tryz.func73 (by kernel_rfl) fun p q=>⟨wjo,(n49n_p _ _ _).p.map _,by rw [wmo];kernel_rfl,vac (ids:=[]) (by kernel_rfl) (by kernel_rfl) trivial⟩
def G41:Glob:=G40.add 73 wxk
theorem G41_ok:GlobOk Tryz.prog G41:=G40_ok.add ⟨Tryz.f73,Tryz.func73,by kernel_rfl,by kernel_rfl⟩ w06
def vlb:q27T→List AV:=fun x=>[.bp 0 0,.bool x.1]
def vlq:q27T→St:=fun x=>[.box [.str x.2.1,.i x.2.2.1,.bool x.2.2.2]]
def v4a:Nat→Option LoopSpec
 |5000004=>some (ctS [0,2] [] [.bp 0 0,.bool] [.box [.str,.i,.bool]] vff (fun p q=>(p.2.1,q.1.1,q.1.2.1,q.1.2.2.1)) (fun k=>(onE (exZ .ret vlb vlq) k)))
 |2000001=>some ⟨[0,2,4,6,8,10,12,14,16,18,20,22,24,26,28,31,32,34,36,38,40,42,44,46,48,50,52,54,56,58],[],fun _ _ _=>none⟩
 |2000005=>some ⟨[0,2,4,6,8,10,12,14,16,18,20,22],[],fun _ _ _=>none⟩
 |_=>none
theorem v03:CtAt G41 ⟨1,54,v4a⟩ Tryz.f74 5000004:=
 vbu rfl (fun x=>(n47n_jp5000004 x).p) vlb vlq (exZ .ret vlb vlq) (fun _ _=>⟨rfl,rfl⟩) (fun _ _=>rfl) (fun x=>by kernel_rfl)
theorem w2t:vad Tryz.prog 74 wxe:=
 vay G41_ok follows (Tryz.f74.body.getD .skip) Tryz.func74 (by kernel_rfl) fun p q=>⟨v4a,(n47n_p _ _ _).p.map _,by rw [wm6];kernel_rfl,vac (ids:=[5000004]) (by kernel_rfl) (by kernel_rfl) ⟨v03,trivial⟩⟩
def G42:Glob:=G41.add 74 wxe
theorem G42_ok:GlobOk Tryz.prog G42:=G41_ok.add ⟨Tryz.f74,Tryz.func74,by kernel_rfl,by kernel_rfl⟩ w2t
def wke:Nat→Option LoopSpec
 |2000001=>some ⟨[0,2,4,6,8,10,12,14,16,18,20,22,24,26,28,30],[],fun _ _ _=>none⟩
 |_=>none
theorem w13:vad Tryz.prog 157 wyi:=
 vay G42_ok follows (Tryz.f157.body.getD .skip) Tryz.func157 (by kernel_rfl) fun p q=>⟨wke,(n48n_p _ _ _).p.map _,by rw [wot];kernel_rfl,vac (ids:=[]) (by kernel_rfl) (by kernel_rfl) trivial⟩
def G43:Glob:=G42.add 157 wyi
theorem G43_ok:GlobOk Tryz.prog G43:=G42_ok.add ⟨Tryz.f157,Tryz.func157,by kernel_rfl,by kernel_rfl⟩ w13
def wjp:Nat→Option LoopSpec
 |1000000=>some ⟨[2],[],fun _ _ _=>none⟩
 |_=>none
def wku:Nat→Option LoopSpec
 |1000000=>some ⟨[2],[],fun _ _ _=>none⟩
 |_=>none
theorem w21:vad Tryz.prog 159 v9l:=by
 refine told G43_ok follows Tryz.func159 (c:=Tryz.f159.body.getD .skip) (by kernel_rfl) ?_
 intro args s k r hk
 unfold v9l at hk
 rcases vce hk with⟨p,q,rfl,rfl⟩|hk
 ·exact⟨wjp,(n36n_p q.2.1.2.2.2.1 q.2.1.2.2.2.2.1 q.2.2.1.1 q.2.2.1.2.1 q.2.2.1.2.2.1).p.map _,by unfold v9l;rw [wym];kernel_rfl,vac (ids:=[]) (by kernel_rfl) (by kernel_rfl) trivial⟩
 rcases vce hk with⟨p,q,rfl,rfl⟩|hk
 ·exact⟨wku,(n37n_p q.2.1.2.2.2.1 q.2.1.2.2.2.2.1 q.2.2.1.1 q.2.2.1.2.1 q.2.2.1.2.2.1 q.2.2.2.1).p.map _,by unfold v9l;rw [wqt];kernel_rfl,vac (ids:=[]) (by kernel_rfl) (by kernel_rfl) trivial⟩
 cases hk
def G44:Glob:=G43.add 159 v9l
theorem G44_ok:GlobOk Tryz.prog G44:=G43_ok.add ⟨Tryz.f159,Tryz.func159,by kernel_rfl,by kernel_rfl⟩ w21
def vla:q69T→List AV:=fun x=>[.bp 0 0,.fn 159 [.bp 1 0,.bp 2 0],.i x.1,.i x.2.1]
def vkf:q69T→St:=fun x=>[.box [.str x.2.2.1,.i x.2.2.2.1,.bool x.2.2.2.2.1],.box [.bp 0 0],.box [.own 3,.nilS,.nilS,.i x.2.2.2.2.2.1,.i x.2.2.2.2.2.2.1],.arr tVersion x.2.2.2.2.2.2.2]
def we1:q69T→List AV:=fun x=>[.bp 0 0,.fn 159 [.bp 1 0,.bp 2 0],.i x.1,.i x.2.1]
def wc2:q69T→St:=fun x=>[.box [.str x.2.2.1,.i x.2.2.2.1,.bool x.2.2.2.2.1],.box [.bp 0 0],.box [.own 3,.nilS,.nilS,.i x.2.2.2.2.2.1,.i x.2.2.2.2.2.2.1],.arr tVersion x.2.2.2.2.2.2.2]
def vva:Nat→Option LoopSpec
 |6000001=>some (ctS [0,1,4,5] [none,none,none,none,none,none,none,none,some tVersion] [.bp 0 0,.fn 159 [.bp 1 0,.bp 2 0],.i,.i] [.box [.str,.i,.bool],.box [.bp 0 0],.box [.own 3,.nilS,.nilS,.i,.i],.arr tVersion] vfs (fun p q=>(p.2.2.1,p.2.2.2.1,q.1.1,q.1.2.1,q.1.2.2.1,q.2.2.1.2.2.2.1,q.2.2.1.2.2.2.2.1,q.2.2.2.1)) (fun k=>(onE (exZ .norm vla vkf) k)))
 |0=>some (lpS [0,1,4,5] [none,none,none,none,none,none,none,none,some tVersion] [.bp 0 0,.fn 159 [.bp 1 0,.bp 2 0],.i,.i] [.box [.str,.i,.bool],.box [.bp 0 0],.box [.own 3,.nilS,.nilS,.i,.i],.arr tVersion] vrs (fun p q=>(p.2.2.1,p.2.2.2.1,q.1.1,q.1.2.1,q.1.2.2.1,q.2.2.1.2.2.2.1,q.2.2.1.2.2.2.2.1,q.2.2.2.1)) (fun k=>(onE (exZ (.exit 0) we1 wc2) k)))
 |3000000=>some ⟨[],[none,none,none,none,some tVersion],fun _ _ _=>none⟩
 |_=>none
theorem v12:CtAt G44 ⟨3,22,vva⟩ Tryz.f158 6000001:=
 vbu rfl (fun x=>(n42n_jp6000001 x).p) vla vkf (exZ .norm vla vkf) (fun _ _=>⟨rfl,rfl⟩) (fun _ _=>rfl) (fun x=>by kernel_rfl)
theorem wsh:LpAt G44 ⟨3,22,vva⟩ Tryz.f158 0:=
 vat rfl (fun x=>(n42n_bp0 x).p) we1 wc2 (exZ (.exit 0) we1 wc2) (fun _ _=>⟨rfl,rfl⟩) (fun z=>by(intro h;cases h)) (fun _ _=>rfl) (fun x=>by kernel_rfl)
theorem vja:vad Tryz.prog 158 vf6:=
 vay G44_ok follows (Tryz.f158.body.getD .skip) Tryz.func158 (by kernel_rfl) fun p q=>⟨vva,(n42n_p _ _ _ _ _).p.map _,by rw [wmr];kernel_rfl,vac (ids:=[6000001,0]) (by kernel_rfl) (by kernel_rfl) ⟨v12,⟨wsh,trivial⟩⟩⟩
def G45:Glob:=G44.add 158 vf6
theorem G45_ok:GlobOk Tryz.prog G45:=G44_ok.add ⟨Tryz.f158,Tryz.func158,by kernel_rfl,by kernel_rfl⟩ vja
def wkg:Nat→Option LoopSpec
 |1000000=>some ⟨[2],[],fun _ _ _=>none⟩
 |_=>none
def wk9:Nat→Option LoopSpec
 |1000000=>some ⟨[2,3],[],fun _ _ _=>none⟩
 |_=>none
theorem w33:vad Tryz.prog 162 wak:=by
 refine told G45_ok follows Tryz.func162 (c:=Tryz.f162.body.getD .skip) (by kernel_rfl) ?_
 intro args s k r hk
 unfold wak at hk
 rcases vce hk with⟨p,q,rfl,rfl⟩|hk
 ·exact⟨wkg,(n51n_p q.1.1 q.1.2.1 q.1.2.2.1 q.1.2.2.2.1 q.1.2.2.2.2.2.2.1 q.1.2.2.2.2.2.2.2.1 q.2.2.1.1 q.2.2.1.2.1 q.2.2.1.2.2.1).p.map _,by unfold wak;rw [wxo];kernel_rfl,vac (ids:=[]) (by kernel_rfl) (by kernel_rfl) trivial⟩
 rcases vce hk with⟨p,q,rfl,rfl⟩|hk
 ·exact⟨wk9,(n52n_p q.1.1 q.1.2.1 q.1.2.2.1 q.1.2.2.2.1 q.1.2.2.2.2.2.2.1 q.1.2.2.2.2.2.2.2.1 q.2.2.1 q.2.2.2.1.1 q.2.2.2.1.2.1 q.2.2.2.1.2.2.1).p.map _,by unfold wak;rw [wm8];kernel_rfl,vac (ids:=[]) (by kernel_rfl) (by kernel_rfl) trivial⟩
 cases hk
def G46:Glob:=G45.add 162 wak
theorem G46_ok:GlobOk Tryz.prog G46:=G45_ok.add ⟨Tryz.f162,Tryz.func162,by kernel_rfl,by kernel_rfl⟩ w33
def vj6:q71T→List AV:=fun x=>[.bp 0 0,.fn 162 [.bp 1 0,.bp 2 0],.i x.1,.i x.2.1]
def vll:q71T→St:=fun x=>let xh:=x.2.2.2.2.2.2.2.2;[.box [.str x.2.2.1,.i x.2.2.2.1,.bool x.2.2.2.2.1],.box [.i x.2.2.2.2.2.1,.i x.2.2.2.2.2.2.1,.i x.2.2.2.2.2.2.2.1,.i xh.1,.own 3,.nilS,.bool xh.2.1,.str xh.2.2.1],.box [.bp 0 0],.arr tRange xh.2.2.2]
def we9:q71T→List AV:=fun x=>[.bp 0 0,.fn 162 [.bp 1 0,.bp 2 0],.i x.1,.i x.2.1]
def wby:q71T→St:=fun x=>let xh:=x.2.2.2.2.2.2.2.2;[.box [.str x.2.2.1,.i x.2.2.2.1,.bool x.2.2.2.2.1],.box [.i x.2.2.2.2.2.1,.i x.2.2.2.2.2.2.1,.i x.2.2.2.2.2.2.2.1,.i xh.1,.own 3,.nilS,.bool xh.2.1,.str xh.2.2.1],.box [.bp 0 0],.arr tRange xh.2.2.2]
def vul:Nat→Option LoopSpec
 |6000001=>some (ctS [0,1,4,5] [none,none,none,none,none,none,none,none,none,none,none,some tRange] [.bp 0 0,.fn 162 [.bp 1 0,.bp 2 0],.i,.i] [.box [.str,.i,.bool],.box [.i,.i,.i,.i,.own 3,.nilS,.bool,.str],.box [.bp 0 0],.arr tRange] vf7 (fun p q=>(p.2.2.1,p.2.2.2.1,q.1.1,q.1.2.1,q.1.2.2.1,q.2.1.1,q.2.1.2.1,q.2.1.2.2.1,q.2.1.2.2.2.1,q.2.1.2.2.2.2.2.2.1,q.2.1.2.2.2.2.2.2.2.1,q.2.2.2.1)) (fun k=>(onE (exZ .norm vj6 vll) k)))
 |0=>some (lpS [0,1,4,5] [none,none,none,none,none,none,none,none,none,none,none,some tRange] [.bp 0 0,.fn 162 [.bp 1 0,.bp 2 0],.i,.i] [.box [.str,.i,.bool],.box [.i,.i,.i,.i,.own 3,.nilS,.bool,.str],.box [.bp 0 0],.arr tRange] vsy (fun p q=>(p.2.2.1,p.2.2.2.1,q.1.1,q.1.2.1,q.1.2.2.1,q.2.1.1,q.2.1.2.1,q.2.1.2.2.1,q.2.1.2.2.2.1,q.2.1.2.2.2.2.2.2.1,q.2.1.2.2.2.2.2.2.2.1,q.2.2.2.1)) (fun k=>(onE (exZ (.exit 0) we9 wby) k)))
 |3000000=>some ⟨[],[none,none,none,none,none,none,none,some tRange],fun _ _ _=>none⟩
 |_=>none
theorem v1t:CtAt G46 ⟨3,22,vul⟩ Tryz.f158 6000001:=
 vbu rfl (fun x=>(n45n_jp6000001 x).p) vj6 vll (exZ .norm vj6 vll) (fun _ _=>⟨rfl,rfl⟩) (fun _ _=>rfl) (fun x=>by kernel_rfl)
theorem wtd:LpAt G46 ⟨3,22,vul⟩ Tryz.f158 0:=
 vat rfl (fun x=>(n45n_bp0 x).p) we9 wby (exZ (.exit 0) we9 wby) (fun _ _=>⟨rfl,rfl⟩) (fun z=>by(intro h;cases h)) (fun _ _=>rfl) (fun x=>by kernel_rfl)
theorem viy:vad Tryz.prog 158 vcr:=by
 refine wkx G46_ok follows Tryz.func158 (c:=Tryz.f158.body.getD .skip) (by kernel_rfl) vja ?_
 intro args s k r hk
 unfold vcr at hk
 rcases vce hk with⟨p,q,rfl,rfl⟩|hk
 ·exact .inl ⟨vul,(n45n_p q.1.1 q.1.2.1 q.1.2.2.1 q.2.1.1 q.2.1.2.1 q.2.1.2.2.1 q.2.1.2.2.2.1 q.2.1.2.2.2.2.2.2.1 q.2.1.2.2.2.2.2.2.2.1).p.map _,by unfold vcr;rw [wnl];kernel_rfl,vac (ids:=[6000001,0]) (by kernel_rfl) (by kernel_rfl) ⟨v1t,⟨wtd,trivial⟩⟩⟩
 exact .inr hk
def G47:Glob:=G46.add 158 vcr
theorem G47_ok:GlobOk Tryz.prog G47:=G46_ok.add ⟨Tryz.f158,Tryz.func158,by kernel_rfl,by kernel_rfl⟩ viy
def wjy:Nat→Option LoopSpec
 |1000000=>some ⟨[2],[],fun _ _ _=>none⟩
 |_=>none
def wj2:Nat→Option LoopSpec
 |1000000=>some ⟨[2],[],fun _ _ _=>none⟩
 |_=>none
theorem w11:vad Tryz.prog 163 v9m:=by
 refine told G47_ok follows Tryz.func163 (c:=Tryz.f163.body.getD .skip) (by kernel_rfl) ?_
 intro args s k r hk
 unfold v9m at hk
 rcases vce hk with⟨p,q,rfl,rfl⟩|hk
 ·exact⟨wjy,(n53n_p q.2.1.1 q.2.1.2.1 q.2.1.2.2.1 q.2.1.2.2.2.1 q.2.1.2.2.2.2.2.2.1 q.2.1.2.2.2.2.2.2.2.1 q.2.2.1.1 q.2.2.1.2.1 q.2.2.1.2.2.1 q.2.2.2.1).p.map _,by unfold v9m;rw [wyf];kernel_rfl,vac (ids:=[]) (by kernel_rfl) (by kernel_rfl) trivial⟩
 rcases vce hk with⟨p,q,rfl,rfl⟩|hk
 ·exact⟨wj2,(n54n_p q.2.1.1 q.2.1.2.1 q.2.1.2.2.1 q.2.1.2.2.2.1 q.2.1.2.2.2.2.2.2.1 q.2.1.2.2.2.2.2.2.2.1 q.2.2.1.1 q.2.2.1.2.1 q.2.2.1.2.2.1 q.2.2.2.1 q.2.2.2.2.1).p.map _,by unfold v9m;rw [wq8];kernel_rfl,vac (ids:=[]) (by kernel_rfl) (by kernel_rfl) trivial⟩
 cases hk
def G48:Glob:=G47.add 163 v9m
theorem G48_ok:GlobOk Tryz.prog G48:=G47_ok.add ⟨Tryz.f163,Tryz.func163,by kernel_rfl,by kernel_rfl⟩ w11
def vlw:q70T→List AV:=fun x=>[.bp 0 0,.fn 163 [.bp 1 0,.bp 2 0],.i x.1,.i x.2.1]
def vk1:q70T→St:=fun x=>let xh:=x.2.2.2.2.2.2.2.2;[.box [.str x.2.2.1,.i x.2.2.2.1,.bool x.2.2.2.2.1],.box [.bp 0 0],.box [.i x.2.2.2.2.2.1,.i x.2.2.2.2.2.2.1,.i x.2.2.2.2.2.2.2.1,.i xh.1,.own 3,.own 4,.bool xh.2.1,.str xh.2.2.1],.arr tRange xh.2.2.2.1,.arr tWrite xh.2.2.2.2]
def wd6:q70T→List AV:=fun x=>[.bp 0 0,.fn 163 [.bp 1 0,.bp 2 0],.i x.1,.i x.2.1]
def wd4:q70T→St:=fun x=>let xh:=x.2.2.2.2.2.2.2.2;[.box [.str x.2.2.1,.i x.2.2.2.1,.bool x.2.2.2.2.1],.box [.bp 0 0],.box [.i x.2.2.2.2.2.1,.i x.2.2.2.2.2.2.1,.i x.2.2.2.2.2.2.2.1,.i xh.1,.own 3,.own 4,.bool xh.2.1,.str xh.2.2.1],.arr tRange xh.2.2.2.1,.arr tWrite xh.2.2.2.2]
def vu9:Nat→Option LoopSpec
 |6000001=>some (ctS [0,1,4,5] [none,none,none,none,none,none,none,none,none,none,none,none,none,some tWrite] [.bp 0 0,.fn 163 [.bp 1 0,.bp 2 0],.i,.i] [.box [.str,.i,.bool],.box [.bp 0 0],.box [.i,.i,.i,.i,.own 3,.own 4,.bool,.str],.arr tRange,.arr tWrite] ve9 (fun p q=>(p.2.2.1,p.2.2.2.1,q.1.1,q.1.2.1,q.1.2.2.1,q.2.2.1.1,q.2.2.1.2.1,q.2.2.1.2.2.1,q.2.2.1.2.2.2.1,q.2.2.1.2.2.2.2.2.2.1,q.2.2.1.2.2.2.2.2.2.2.1,q.2.2.2.1,q.2.2.2.2.1)) (fun k=>(onE (exZ .norm vlw vk1) k)))
 |0=>some (lpS [0,1,4,5] [none,none,none,none,none,none,none,none,none,none,none,none,none,some tWrite] [.bp 0 0,.fn 163 [.bp 1 0,.bp 2 0],.i,.i] [.box [.str,.i,.bool],.box [.bp 0 0],.box [.i,.i,.i,.i,.own 3,.own 4,.bool,.str],.arr tRange,.arr tWrite] vsx (fun p q=>(p.2.2.1,p.2.2.2.1,q.1.1,q.1.2.1,q.1.2.2.1,q.2.2.1.1,q.2.2.1.2.1,q.2.2.1.2.2.1,q.2.2.1.2.2.2.1,q.2.2.1.2.2.2.2.2.2.1,q.2.2.1.2.2.2.2.2.2.2.1,q.2.2.2.1,q.2.2.2.2.1)) (fun k=>(onE (exZ (.exit 0) wd6 wd4) k)))
 |3000000=>some ⟨[],[none,none,none,none,none,none,none,none,none,some tWrite],fun _ _ _=>none⟩
 |_=>none
theorem v01:CtAt G48 ⟨4,22,vu9⟩ Tryz.f158 6000001:=
 vbu rfl (fun x=>(n46n_jp6000001 x).p) vlw vk1 (exZ .norm vlw vk1) (fun _ _=>⟨rfl,rfl⟩) (fun _ _=>rfl) (fun x=>by kernel_rfl)
theorem wvl:LpAt G48 ⟨4,22,vu9⟩ Tryz.f158 0:=
 vat rfl (fun x=>(n46n_bp0 x).p) wd6 wd4 (exZ (.exit 0) wd6 wd4) (fun _ _=>⟨rfl,rfl⟩) (fun z=>by(intro h;cases h)) (fun _ _=>rfl) (fun x=>by kernel_rfl)
theorem vi0:vad Tryz.prog 158 vco:=by
 refine wkx G48_ok follows Tryz.func158 (c:=Tryz.f158.body.getD .skip) (by kernel_rfl) viy ?_
 intro args s k r hk
 unfold vco at hk
 rcases vce hk with⟨p,q,rfl,rfl⟩|hk
 ·exact .inl ⟨vu9,(n46n_p q.1.1 q.1.2.1 q.1.2.2.1 q.2.2.1.1 q.2.2.1.2.1 q.2.2.1.2.2.1 q.2.2.1.2.2.2.1 q.2.2.1.2.2.2.2.2.2.1 q.2.2.1.2.2.2.2.2.2.2.1 q.2.2.2.1).p.map _,by unfold vco;rw [wq3];kernel_rfl,vac (ids:=[6000001,0]) (by kernel_rfl) (by kernel_rfl) ⟨v01,⟨wvl,trivial⟩⟩⟩
 exact .inr hk
def G49:Glob:=G48.add 158 vco
theorem G49_ok:GlobOk Tryz.prog G49:=G48_ok.add ⟨Tryz.f158,Tryz.func158,by kernel_rfl,by kernel_rfl⟩ vi0
def vx8:(ByteArray×Bool×Int)→List AV:=fun x=>[.str x.1,.bool x.2.1,.i x.2.2]
def vyj:(ByteArray×Bool×Int)→St:=fun x=>[]
def v4f:Nat→Option LoopSpec
 |0=>some (lpS [0,2,3] [] [.str,.bool,.i] [] vny (fun p q=>(p.1,p.2.1,p.2.2.1)) (fun k=>(Sum.elim (onE (exZ .ret vx8 vyj) k) (onE (exZ (.exit 0) vx8 vyj) k))))
 |_=>none
theorem wsz:LpAt G49 ⟨0,23,v4f⟩ Tryz.f180 0:=
 vat rfl (fun x=>(n06n_bp0 x).p) vx8 vyj (Sum.elim ((exZ .ret vx8 vyj)) ((exZ (.exit 0) vx8 vyj))) (fun _ _=>⟨rfl,rfl⟩) (fun z=>by rcases z with z|z<;>(intro h;cases h)) (fun k z=>by rcases z with z|z<;>rfl) (fun x=>by kernel_rfl)
theorem w1u:vad Tryz.prog 180 wxx:=
 vay G49_ok follows (Tryz.f180.body.getD .skip) Tryz.func180 (by kernel_rfl) fun p q=>⟨v4f,(n06n_p _).p.map _,by rw [wpw];kernel_rfl,vac (ids:=[0]) (by kernel_rfl) (by kernel_rfl) ⟨wsz,trivial⟩⟩
def G50:Glob:=G49.add 180 wxx
theorem G50_ok:GlobOk Tryz.prog G50:=G49_ok.add ⟨Tryz.f180,Tryz.func180,by kernel_rfl,by kernel_rfl⟩ w1u
def wkt:Nat→Option LoopSpec
 |_=>none
theorem w15:vad Tryz.prog 89 wwn:=
 vay G50_ok follows (Tryz.f89.body.getD .skip) Tryz.func89 (by kernel_rfl) fun p q=>⟨wkt,(n07n_p _).p.map _,by rw [wlo];kernel_rfl,vac (ids:=[]) (by kernel_rfl) (by kernel_rfl) trivial⟩
def G51:Glob:=G50.add 89 wwn
theorem G51_ok:GlobOk Tryz.prog G51:=G50_ok.add ⟨Tryz.f89,Tryz.func89,by kernel_rfl,by kernel_rfl⟩ w15
def wki:Nat→Option LoopSpec
 |_=>none
theorem w2k:vad Tryz.prog 254 wx2:=
 vay G51_ok follows (Tryz.f254.body.getD .skip) Tryz.func254 (by kernel_rfl) fun p q=>⟨wki,(n22n_p _).p.map _,by rw [wm0];kernel_rfl,vac (ids:=[]) (by kernel_rfl) (by kernel_rfl) trivial⟩
def G52:Glob:=G51.add 254 wx2
theorem G52_ok:GlobOk Tryz.prog G52:=G51_ok.add ⟨Tryz.f254,Tryz.func254,by kernel_rfl,by kernel_rfl⟩ w2k
def vxc:q18T→List AV:=fun x=>[.lst tWrite x.1,.bool x.2.1,.lst tWrite x.2.2.1,.i x.2.2.2.1,.i x.2.2.2.2]
def vwu:q18T→St:=fun x=>[]
def v35:Nat→Option LoopSpec
 |0=>some (lpS [0,2,5,6,7] [] [.lst tWrite,.bool,.lst tWrite,.i,.i] [] vnr (fun p q=>(p.1,p.2.1,p.2.2.1,p.2.2.2.1,p.2.2.2.2.1)) (fun k=>(Sum.elim (onE (exZ .ret vxc vwu) k) (onE (exZ (.exit 0) vxc vwu) k))))
 |2000004=>some ⟨[0,3,4,6,8,10,12,14,16,18,20,22,24,26,28,30,32,34],[],fun _ _ _=>none⟩
 |_=>none
theorem wtn:LpAt G52 ⟨0,34,v35⟩ Tryz.f213 0:=
 vat rfl (fun x=>(n23n_bp0 x).p) vxc vwu (Sum.elim ((exZ .ret vxc vwu)) ((exZ (.exit 0) vxc vwu))) (fun _ _=>⟨rfl,rfl⟩) (fun z=>by rcases z with z|z<;>(intro h;cases h)) (fun k z=>by rcases z with z|z<;>rfl) (fun x=>by kernel_rfl)
theorem w14:vad Tryz.prog 213 wxy:=
 vay G52_ok follows (Tryz.f213.body.getD .skip) Tryz.func213 (by kernel_rfl) fun p q=>⟨v35,(n23n_p _).p.map _,by rw [wm4];kernel_rfl,vac (ids:=[0]) (by kernel_rfl) (by kernel_rfl) ⟨wtn,trivial⟩⟩
def G53:Glob:=G52.add 213 wxy
theorem G53_ok:GlobOk Tryz.prog G53:=G52_ok.add ⟨Tryz.f213,Tryz.func213,by kernel_rfl,by kernel_rfl⟩ w14
def vlo:q31T→List AV:=fun x=>[.bp 0 0,.bool x.1]
def vj1:q31T→St:=fun x=>[.box [.i x.2.1,.i x.2.2.1,.i x.2.2.2.1,.i x.2.2.2.2.1,.lst tRange x.2.2.2.2.2.1,.lst tWrite x.2.2.2.2.2.2.1,.bool x.2.2.2.2.2.2.2.1,.str x.2.2.2.2.2.2.2.2]]
def vkc:q31T→List AV:=fun x=>[.bp 0 0,.bool x.1]
def vkw:q31T→St:=fun x=>[.box [.i x.2.1,.i x.2.2.1,.i x.2.2.2.1,.i x.2.2.2.2.1,.lst tRange x.2.2.2.2.2.1,.lst tWrite x.2.2.2.2.2.2.1,.bool x.2.2.2.2.2.2.2.1,.str x.2.2.2.2.2.2.2.2]]
def vxm:q21T→List AV:=fun x=>[.bp 0 0,.bool x.1,.lst tRange x.2.1,.i x.2.2.1,.i x.2.2.2.1]
def vxb:q21T→St:=fun x=>let xh:=x.2.2.2.2.2.2.2.2;[.box [.i x.2.2.2.2.1,.i x.2.2.2.2.2.1,.i x.2.2.2.2.2.2.1,.i x.2.2.2.2.2.2.2.1,.lst tRange xh.1,.lst tWrite xh.2.1,.bool xh.2.2.1,.str xh.2.2.2]]
def vqe:Nat→Option LoopSpec
 |5000011=>some (ctS [1,2] [] [.bp 0 0,.bool] [.box [.i,.i,.i,.i,.lst tRange,.lst tWrite,.bool,.str]] vcl (fun p q=>(p.2.1,q.1.1,q.1.2.1,q.1.2.2.1,q.1.2.2.2.1,q.1.2.2.2.2.1,q.1.2.2.2.2.2.1,q.1.2.2.2.2.2.2.1,q.1.2.2.2.2.2.2.2.1)) (fun k=>(onE (exZ .ret vlo vj1) k)))
 |5000009=>some (ctS [1,2] [] [.bp 0 0,.bool] [.box [.i,.i,.i,.i,.lst tRange,.lst tWrite,.bool,.str]] vdg (fun p q=>(p.2.1,q.1.1,q.1.2.1,q.1.2.2.1,q.1.2.2.2.1,q.1.2.2.2.2.1,q.1.2.2.2.2.2.1,q.1.2.2.2.2.2.2.1,q.1.2.2.2.2.2.2.2.1)) (fun k=>(onE (exZ .ret vkc vkw) k)))
 |0=>some (lpS [1,2,6,7,8] [] [.bp 0 0,.bool,.lst tRange,.i,.i] [.box [.i,.i,.i,.i,.lst tRange,.lst tWrite,.bool,.str]] vp7 (fun p q=>(p.2.1,p.2.2.1,p.2.2.2.1,p.2.2.2.2.1,q.1.1,q.1.2.1,q.1.2.2.1,q.1.2.2.2.1,q.1.2.2.2.2.1,q.1.2.2.2.2.2.1,q.1.2.2.2.2.2.2.1,q.1.2.2.2.2.2.2.2.1)) (fun k=>(Sum.elim (onE (exZ .ret vxm vxb) k) (onE (exZ (.exit 0) vxm vxb) k))))
 |_=>none
theorem v0s:CtAt G53 ⟨0,93,vqe⟩ Tryz.f129 5000011:=
 vbu rfl (fun x=>(n17n_jp5000011 x).p) vlo vj1 (exZ .ret vlo vj1) (fun _ _=>⟨rfl,rfl⟩) (fun _ _=>rfl) (fun x=>by kernel_rfl)
theorem v16:CtAt G53 ⟨0,93,vqe⟩ Tryz.f129 5000009:=
 vbu rfl (fun x=>(n17n_jp5000009 x).p) vkc vkw (exZ .ret vkc vkw) (fun _ _=>⟨rfl,rfl⟩) (fun _ _=>rfl) (fun x=>by kernel_rfl)
theorem wsw:LpAt G53 ⟨0,93,vqe⟩ Tryz.f129 0:=
 vat rfl (fun x=>(n17n_bp0 x).p) vxm vxb (Sum.elim ((exZ .ret vxm vxb)) ((exZ (.exit 0) vxm vxb))) (fun _ _=>⟨rfl,rfl⟩) (fun z=>by rcases z with z|z<;>(intro h;cases h)) (fun k z=>by rcases z with z|z<;>rfl) (fun x=>by kernel_rfl)
theorem w3h:vad Tryz.prog 129 wyg:=
 vay G53_ok follows (Tryz.f129.body.getD .skip) Tryz.func129 (by kernel_rfl) fun p q=>⟨vqe,(n17n_p _).p.map _,by rw [wqr];kernel_rfl,vac (ids:=[5000011,5000009,0]) (by kernel_rfl) (by kernel_rfl) ⟨v0s,⟨v16,⟨wsw,trivial⟩⟩⟩⟩
def G54:Glob:=G53.add 129 wyg
theorem G54_ok:GlobOk Tryz.prog G54:=G53_ok.add ⟨Tryz.f129,Tryz.func129,by kernel_rfl,by kernel_rfl⟩ w3h
def wkv:Nat→Option LoopSpec
 |2000006=>some ⟨[0,2,4,6,8,10,12,15,16,18,20,22,24],[],fun _ _ _=>none⟩
 |1000001=>some ⟨[0],[],fun _ _ _=>none⟩
 |_=>none
theorem w3f:vad Tryz.prog 76 wxd:=
 vay G54_ok follows (Tryz.f76.body.getD .skip) Tryz.func76 (by kernel_rfl) fun p q=>⟨wkv,(n50n_p _ _ _).p.map _,by rw [wib];kernel_rfl,vac (ids:=[]) (by kernel_rfl) (by kernel_rfl) trivial⟩
def G55:Glob:=G54.add 76 wxd
theorem G55_ok:GlobOk Tryz.prog G55:=G54_ok.add ⟨Tryz.f76,Tryz.func76,by kernel_rfl,by kernel_rfl⟩ w3f
def wkp:Nat→Option LoopSpec
 |1000000=>some ⟨[3,4,5,6],[],fun _ _ _=>none⟩
 |_=>none
theorem wwk:vad Tryz.prog 160 wqc:=
 vay G55_ok follows (Tryz.f160.body.getD .skip) Tryz.func160 (by kernel_rfl) fun p q=>⟨wkp,(n38n_p _ _ _ _ _ _).p.map _,by rw [ww8];kernel_rfl,vac (ids:=[]) (by kernel_rfl) (by kernel_rfl) trivial⟩
def G56:Glob:=G55.add 160 wqc
theorem G56_ok:GlobOk Tryz.prog G56:=G55_ok.add ⟨Tryz.f160,Tryz.func160,by kernel_rfl,by kernel_rfl⟩ wwk
def wjs:Nat→Option LoopSpec
 |1000000=>some ⟨[3,4,5,6,7],[],fun _ _ _=>none⟩
 |_=>none
theorem wyw:vad Tryz.prog 160 v6k:=by
 refine wkx G56_ok follows Tryz.func160 (c:=Tryz.f160.body.getD .skip) (by kernel_rfl) wwk ?_
 intro args s k r hk
 unfold v6k at hk
 rcases vce hk with⟨p,q,rfl,rfl⟩|hk
 ·exact .inl ⟨wjs,(n39n_p q.1.2.2.2.1 q.1.2.2.2.2.1 q.2.2.1 q.2.2.2.1 q.2.2.2.2.1.1 q.2.2.2.2.1.2.1 q.2.2.2.2.1.2.2.1).p.map _,by unfold v6k;rw [whk];kernel_rfl,vac (ids:=[]) (by kernel_rfl) (by kernel_rfl) trivial⟩
 exact .inr hk
def G57:Glob:=G56.add 160 v6k
theorem G57_ok:GlobOk Tryz.prog G57:=G56_ok.add ⟨Tryz.f160,Tryz.func160,by kernel_rfl,by kernel_rfl⟩ wyw
def vlg:q68T→List AV:=fun x=>[.bp 0 0,.fn 160 [.bp 1 0,.bp 2 0],.i x.1,.i x.2.1]
def vku:q68T→St:=fun x=>[.box [.str x.2.2.1,.i x.2.2.2.1,.bool x.2.2.2.2.1],.box [.own 3,.own 4,.nilS,.i x.2.2.2.2.2.1,.i x.2.2.2.2.2.2.1],.box [.bp 0 0],.arr tVersion x.2.2.2.2.2.2.2.1,.dep tTxn x.2.2.2.2.2.2.2.2 0]
def wd3:q68T→List AV:=fun x=>[.bp 0 0,.fn 160 [.bp 1 0,.bp 2 0],.i x.1,.i x.2.1]
def wbs:q68T→St:=fun x=>[.box [.str x.2.2.1,.i x.2.2.2.1,.bool x.2.2.2.2.1],.box [.own 3,.own 4,.nilS,.i x.2.2.2.2.2.1,.i x.2.2.2.2.2.2.1],.box [.bp 0 0],.arr tVersion x.2.2.2.2.2.2.2.1,.dep tTxn x.2.2.2.2.2.2.2.2 0]
def vud:Nat→Option LoopSpec
 |6000001=>some (ctS [0,1,4,5] [none,none,none,none,none,none,none,none,some tTxn] [.bp 0 0,.fn 160 [.bp 1 0,.bp 2 0],.i,.i] [.box [.str,.i,.bool],.box [.own 3,.own 4,.nilS,.i,.i],.box [.bp 0 0],.arr tVersion,.dep tTxn 0] vd9 (fun p q=>(p.2.2.1,p.2.2.2.1,q.1.1,q.1.2.1,q.1.2.2.1,q.2.1.2.2.2.1,q.2.1.2.2.2.2.1,q.2.2.2.1,q.2.2.2.2.1)) (fun k=>(onE (exZ .norm vlg vku) k)))
 |0=>some (lpS [0,1,4,5] [none,none,none,none,none,none,none,none,some tTxn] [.bp 0 0,.fn 160 [.bp 1 0,.bp 2 0],.i,.i] [.box [.str,.i,.bool],.box [.own 3,.own 4,.nilS,.i,.i],.box [.bp 0 0],.arr tVersion,.dep tTxn 0] vle (fun p q=>(p.2.2.1,p.2.2.2.1,q.1.1,q.1.2.1,q.1.2.2.1,q.2.1.2.2.2.1,q.2.1.2.2.2.2.1,q.2.2.2.1,q.2.2.2.2.1)) (fun k=>(onE (exZ (.exit 0) wd3 wbs) k)))
 |3000000=>some ⟨[],[none,none,none,none,some tTxn],fun _ _ _=>none⟩
 |_=>none
theorem v0y:CtAt G57 ⟨4,22,vud⟩ Tryz.f158 6000001:=
 vbu rfl (fun x=>(n43n_jp6000001 x).p) vlg vku (exZ .norm vlg vku) (fun _ _=>⟨rfl,rfl⟩) (fun _ _=>rfl) (fun x=>by kernel_rfl)
theorem wsp:LpAt G57 ⟨4,22,vud⟩ Tryz.f158 0:=
 vat rfl (fun x=>(n43n_bp0 x).p) wd3 wbs (exZ (.exit 0) wd3 wbs) (fun _ _=>⟨rfl,rfl⟩) (fun z=>by(intro h;cases h)) (fun _ _=>rfl) (fun x=>by kernel_rfl)
theorem viv:vad Tryz.prog 158 vcq:=by
 refine wkx G57_ok follows Tryz.func158 (c:=Tryz.f158.body.getD .skip) (by kernel_rfl) vi0 ?_
 intro args s k r hk
 unfold vcq at hk
 rcases vce hk with⟨p,q,rfl,rfl⟩|hk
 ·exact .inl ⟨vud,(n43n_p q.1.1 q.1.2.1 q.1.2.2.1 q.2.1.2.2.2.1 q.2.1.2.2.2.2.1 q.2.2.2.1).p.map _,by unfold vcq;rw [wm7];kernel_rfl,vac (ids:=[6000001,0]) (by kernel_rfl) (by kernel_rfl) ⟨v0y,⟨wsp,trivial⟩⟩⟩
 exact .inr hk
def G58:Glob:=G57.add 158 vcq
theorem G58_ok:GlobOk Tryz.prog G58:=G57_ok.add ⟨Tryz.f158,Tryz.func158,by kernel_rfl,by kernel_rfl⟩ viv
def wll:Nat→Option LoopSpec
 |1000000=>some ⟨[4,5,6,7],[],fun _ _ _=>none⟩
 |_=>none
theorem wv8:vad Tryz.prog 161 wn8:=
 vay G58_ok follows (Tryz.f161.body.getD .skip) Tryz.func161 (by kernel_rfl) fun p q=>⟨wll,(n40n_p _ _ _ _ _ _ _).p.map _,by rw [wx4];kernel_rfl,vac (ids:=[]) (by kernel_rfl) (by kernel_rfl) trivial⟩
def G59:Glob:=G58.add 161 wn8
theorem G59_ok:GlobOk Tryz.prog G59:=G58_ok.add ⟨Tryz.f161,Tryz.func161,by kernel_rfl,by kernel_rfl⟩ wv8
def wkk:Nat→Option LoopSpec
 |1000000=>some ⟨[4,5,6,7,8],[],fun _ _ _=>none⟩
 |_=>none
theorem wz9:vad Tryz.prog 161 v5o:=by
 refine wkx G59_ok follows Tryz.func161 (c:=Tryz.f161.body.getD .skip) (by kernel_rfl) wv8 ?_
 intro args s k r hk
 unfold v5o at hk
 rcases vce hk with⟨p,q,rfl,rfl⟩|hk
 ·exact .inl ⟨wkk,(n41n_p q.1.2.2.2.1 q.1.2.2.2.2.1 q.2.2.1 q.2.2.2.1 q.2.2.2.2.1 q.2.2.2.2.2.1.1 q.2.2.2.2.2.1.2.1 q.2.2.2.2.2.1.2.2.1).p.map _,by unfold v5o;rw [wgz];kernel_rfl,vac (ids:=[]) (by kernel_rfl) (by kernel_rfl) trivial⟩
 exact .inr hk
def G60:Glob:=G59.add 161 v5o
theorem G60_ok:GlobOk Tryz.prog G60:=G59_ok.add ⟨Tryz.f161,Tryz.func161,by kernel_rfl,by kernel_rfl⟩ wz9
def vlk:q67T→List AV:=fun x=>[.bp 0 0,.fn 161 [.bp 1 0,.bp 2 0],.i x.1,.i x.2.1]
def vkd:q67T→St:=fun x=>let xh:=x.2.2.2.2.2.2.2.2;[.box [.str x.2.2.1,.i x.2.2.2.1,.bool x.2.2.2.2.1],.box [.own 3,.own 4,.own 5,.i x.2.2.2.2.2.1,.i x.2.2.2.2.2.2.1],.box [.bp 0 0],.arr tVersion x.2.2.2.2.2.2.2.1,.dep tTxn xh.1 0,.dep tTxn xh.2 0]
def wcg:q67T→List AV:=fun x=>[.bp 0 0,.fn 161 [.bp 1 0,.bp 2 0],.i x.1,.i x.2.1]
def wcx:q67T→St:=fun x=>let xh:=x.2.2.2.2.2.2.2.2;[.box [.str x.2.2.1,.i x.2.2.2.1,.bool x.2.2.2.2.1],.box [.own 3,.own 4,.own 5,.i x.2.2.2.2.2.1,.i x.2.2.2.2.2.2.1],.box [.bp 0 0],.arr tVersion x.2.2.2.2.2.2.2.1,.dep tTxn xh.1 0,.dep tTxn xh.2 0]
def vun:Nat→Option LoopSpec
 |6000001=>some (ctS [0,1,4,5] [none,none,none,none,none,none,none,none,none,some tTxn] [.bp 0 0,.fn 161 [.bp 1 0,.bp 2 0],.i,.i] [.box [.str,.i,.bool],.box [.own 3,.own 4,.own 5,.i,.i],.box [.bp 0 0],.arr tVersion,.dep tTxn 0,.dep tTxn 0] vec (fun p q=>(p.2.2.1,p.2.2.2.1,q.1.1,q.1.2.1,q.1.2.2.1,q.2.1.2.2.2.1,q.2.1.2.2.2.2.1,q.2.2.2.1,q.2.2.2.2.1,q.2.2.2.2.2.1)) (fun k=>(onE (exZ .norm vlk vkd) k)))
 |0=>some (lpS [0,1,4,5] [none,none,none,none,none,none,none,none,none,some tTxn] [.bp 0 0,.fn 161 [.bp 1 0,.bp 2 0],.i,.i] [.box [.str,.i,.bool],.box [.own 3,.own 4,.own 5,.i,.i],.box [.bp 0 0],.arr tVersion,.dep tTxn 0,.dep tTxn 0] vkv (fun p q=>(p.2.2.1,p.2.2.2.1,q.1.1,q.1.2.1,q.1.2.2.1,q.2.1.2.2.2.1,q.2.1.2.2.2.2.1,q.2.2.2.1,q.2.2.2.2.1,q.2.2.2.2.2.1)) (fun k=>(onE (exZ (.exit 0) wcg wcx) k)))
 |3000000=>some ⟨[],[none,none,none,none,none,some tTxn],fun _ _ _=>none⟩
 |_=>none
theorem v1z:CtAt G60 ⟨5,22,vun⟩ Tryz.f158 6000001:=
 vbu rfl (fun x=>(n44n_jp6000001 x).p) vlk vkd (exZ .norm vlk vkd) (fun _ _=>⟨rfl,rfl⟩) (fun _ _=>rfl) (fun x=>by kernel_rfl)
theorem wtj:LpAt G60 ⟨5,22,vun⟩ Tryz.f158 0:=
 vat rfl (fun x=>(n44n_bp0 x).p) wcg wcx (exZ (.exit 0) wcg wcx) (fun _ _=>⟨rfl,rfl⟩) (fun z=>by(intro h;cases h)) (fun _ _=>rfl) (fun x=>by kernel_rfl)
theorem vsl:vad Tryz.prog 158 vdh:=by
 refine wkx G60_ok follows Tryz.func158 (c:=Tryz.f158.body.getD .skip) (by kernel_rfl) viv ?_
 intro args s k r hk
 unfold vdh at hk
 rcases vce hk with⟨p,q,rfl,rfl⟩|hk
 ·exact .inl ⟨vun,(n44n_p q.1.1 q.1.2.1 q.1.2.2.1 q.2.1.2.2.2.1 q.2.1.2.2.2.2.1 q.2.2.2.1 q.2.2.2.2.1).p.map _,by unfold vdh;rw [wmw];kernel_rfl,vac (ids:=[6000001,0]) (by kernel_rfl) (by kernel_rfl) ⟨v1z,⟨wtj,trivial⟩⟩⟩
 exact .inr hk
def G61:Glob:=G60.add 158 vdh
theorem G61_ok:GlobOk Tryz.prog G61:=G60_ok.add ⟨Tryz.f158,Tryz.func158,by kernel_rfl,by kernel_rfl⟩ vsl
def wlj:Nat→Option LoopSpec
 |_=>none
theorem w3p:vad Tryz.prog 285 wyb:=
 vay G61_ok follows (Tryz.f285.body.getD .skip) Tryz.func285 (by kernel_rfl) fun p q=>⟨wlj,(n03n_p _).p.map _,by rw [wpx];kernel_rfl,vac (ids:=[]) (by kernel_rfl) (by kernel_rfl) trivial⟩
def G62:Glob:=G61.add 285 wyb
theorem G62_ok:GlobOk Tryz.prog G62:=G61_ok.add ⟨Tryz.f285,Tryz.func285,by kernel_rfl,by kernel_rfl⟩ w3p
def wlk:Nat→Option LoopSpec
 |_=>none
theorem w3m:vad Tryz.prog 252 wye:=
 vay G62_ok follows (Tryz.f252.body.getD .skip) Tryz.func252 (by kernel_rfl) fun p q=>⟨wlk,(n01n_p _ _).p.map _,by rw [wn3];kernel_rfl,vac (ids:=[]) (by kernel_rfl) (by kernel_rfl) trivial⟩
def G63:Glob:=G62.add 252 wye
theorem G63_ok:GlobOk Tryz.prog G63:=G62_ok.add ⟨Tryz.f252,Tryz.func252,by kernel_rfl,by kernel_rfl⟩ w3m
def wjm:Nat→Option LoopSpec
 |_=>none
theorem w1d:vad Tryz.prog 286 wwr:=
 vay G63_ok follows (Tryz.f286.body.getD .skip) Tryz.func286 (by kernel_rfl) fun p q=>⟨wjm,(n02n_p _).p.map _,by rw [wnx];kernel_rfl,vac (ids:=[]) (by kernel_rfl) (by kernel_rfl) trivial⟩
def G64:Glob:=G63.add 286 wwr
theorem G64_ok:GlobOk Tryz.prog G64:=G63_ok.add ⟨Tryz.f286,Tryz.func286,by kernel_rfl,by kernel_rfl⟩ w1d
def wk3:Nat→Option LoopSpec
 |_=>none
theorem w3y:vad Tryz.prog 253 wxa:=
 vay G64_ok follows (Tryz.f253.body.getD .skip) Tryz.func253 (by kernel_rfl) fun p q=>⟨wk3,(n00n_p _ _).p.map _,by rw [wp4];kernel_rfl,vac (ids:=[]) (by kernel_rfl) (by kernel_rfl) trivial⟩
def G65:Glob:=G64.add 253 wxa
theorem G65_ok:GlobOk Tryz.prog G65:=G64_ok.add ⟨Tryz.f253,Tryz.func253,by kernel_rfl,by kernel_rfl⟩ w3y
def wlf:Nat→Option LoopSpec
 |_=>none
theorem w1w:vad Tryz.prog 212 wwi:=
 vay G65_ok follows (Tryz.f212.body.getD .skip) Tryz.func212 (by kernel_rfl) fun p q=>⟨wlf,(n24n_p _ _).p.map _,by rw [wrl];kernel_rfl,vac (ids:=[]) (by kernel_rfl) (by kernel_rfl) trivial⟩
def G66:Glob:=G65.add 212 wwi
theorem G66_ok:GlobOk Tryz.prog G66:=G65_ok.add ⟨Tryz.f212,Tryz.func212,by kernel_rfl,by kernel_rfl⟩ w1w
def vz2:q13T→List AV:=fun x=>[.lst tVersion x.1,.bool x.2.1,.lst tVersion x.2.2.1,.i x.2.2.2.1,.i x.2.2.2.2]
def vzk:q13T→St:=fun x=>[]
def v3i:Nat→Option LoopSpec
 |0=>some (lpS [0,2,5,6,7] [] [.lst tVersion,.bool,.lst tVersion,.i,.i] [] vp0 (fun p q=>(p.1,p.2.1,p.2.2.1,p.2.2.2.1,p.2.2.2.2.1)) (fun k=>(Sum.elim (onE (exZ .ret vz2 vzk) k) (onE (exZ (.exit 0) vz2 vzk) k))))
 |2000004=>some ⟨[0,2,5,6,8,10,12,14,16,18,20,22,24,26,28,30,32,34,36,38,40,42,45,46,48,50,52,54,56,58,60,62,64,66,68,71,72,74,76],[],fun _ _ _=>none⟩
 |_=>none
theorem wub:LpAt G66 ⟨0,55,v3i⟩ Tryz.f127 0:=
 vat rfl (fun x=>(n21n_bp0 x).p) vz2 vzk (Sum.elim ((exZ .ret vz2 vzk)) ((exZ (.exit 0) vz2 vzk))) (fun _ _=>⟨rfl,rfl⟩) (fun z=>by rcases z with z|z<;>(intro h;cases h)) (fun k z=>by rcases z with z|z<;>rfl) (fun x=>by kernel_rfl)
theorem w18:vad Tryz.prog 127 ww0:=
 vay G66_ok follows (Tryz.f127.body.getD .skip) Tryz.func127 (by kernel_rfl) fun p q=>⟨v3i,(n21n_p _).p.map _,by rw [wq7];kernel_rfl,vac (ids:=[0]) (by kernel_rfl) (by kernel_rfl) ⟨wub,trivial⟩⟩
def G67:Glob:=G66.add 127 ww0
theorem G67_ok:GlobOk Tryz.prog G67:=G66_ok.add ⟨Tryz.f127,Tryz.func127,by kernel_rfl,by kernel_rfl⟩ w18
def wjc:Nat→Option LoopSpec
 |_=>none
theorem w25:vad Tryz.prog 130 wxr:=
 vay G67_ok follows (Tryz.f130.body.getD .skip) Tryz.func130 (by kernel_rfl) fun p q=>⟨wjc,(n29n_p _).p.map _,by rw [won];kernel_rfl,vac (ids:=[]) (by kernel_rfl) (by kernel_rfl) trivial⟩
def G68:Glob:=G67.add 130 wxr
theorem G68_ok:GlobOk Tryz.prog G68:=G67_ok.add ⟨Tryz.f130,Tryz.func130,by kernel_rfl,by kernel_rfl⟩ w25
def wk4:Nat→Option LoopSpec
 |_=>none
theorem w2w:vad Tryz.prog 131 wya:=
 vay G68_ok follows (Tryz.f131.body.getD .skip) Tryz.func131 (by kernel_rfl) fun p q=>⟨wk4,(n30n_p _).p.map _,by rw [wrj];kernel_rfl,vac (ids:=[]) (by kernel_rfl) (by kernel_rfl) trivial⟩
def G69:Glob:=G68.add 131 wya
theorem G69_ok:GlobOk Tryz.prog G69:=G68_ok.add ⟨Tryz.f131,Tryz.func131,by kernel_rfl,by kernel_rfl⟩ w2w
def wjh:Nat→Option LoopSpec
 |3000000=>some ⟨[],[some tTxn],fun _ _ _=>none⟩
 |_=>none
theorem vvf:vad Tryz.prog 215 vly:=
 vay G69_ok follows (Tryz.f215.body.getD .skip) Tryz.func215 (by kernel_rfl) fun p q=>⟨wjh,(n85n_p _).p.map2 _ _,by rw [wmk];kernel_rfl,vac (ids:=[]) (by kernel_rfl) (by kernel_rfl) trivial⟩
def G70:Glob:=G69.add 215 vly
theorem G70_ok:GlobOk Tryz.prog G70:=G69_ok.add ⟨Tryz.f215,Tryz.func215,by kernel_rfl,by kernel_rfl⟩ vvf
def weq:q0T→List AV:=fun x=>[.lst (.slice tTxn) x.1,.i x.2.1,.lst (.slice tTxn) x.2.2.1,.i x.2.2.2.1,.i x.2.2.2.2]
def wbp:q0T→St:=fun x=>[]
def vhx:Nat→Option LoopSpec
 |0=>some (lpS [0,3,9,10,11] [] [.lst (.slice tTxn),.i,.lst (.slice tTxn),.i,.i] [] vpj (fun p q=>(p.1,p.2.1,p.2.2.1,p.2.2.2.1,p.2.2.2.2.1)) (fun k=>(onE (exZ (.exit 0) weq wbp) k)))
 |2=>some ⟨[6,25,26,27],[],fun vals st k=>val [.own 0,.lst (.slice tTxn),.i,.i] [.arr tTxn] vals st (fun p q=>vae vez Fuel (.inl (p.2.1,p.2.2.1,p.2.2.2.1,q.1)) (Sum.elim (fun z=>k (.exit 2) [.own 0,.lst (.slice tTxn) z.1,.i z.2.1,.i z.2.2.1] [.arr tTxn z.2.2.2]) (fun z=>k (.exit 2) [.own 0,.lst (.slice tTxn) z.1,.i z.2.1,.i z.2.2.1] [.dep tTxn z.2.2.2 0])))
   (val [.own 0,.lst (.slice tTxn),.i,.i] [.dep tTxn 0] vals st (fun p q=>vae vez Fuel (.inr (p.2.1,p.2.2.1,p.2.2.2.1,q.1)) (Sum.elim (fun z=>k (.exit 2) [.own 0,.lst (.slice tTxn) z.1,.i z.2.1,.i z.2.2.1] [.arr tTxn z.2.2.2]) (fun z=>k (.exit 2) [.own 0,.lst (.slice tTxn) z.1,.i z.2.1,.i z.2.2.1] [.dep tTxn z.2.2.2 0])))
   (none))⟩
 |_=>none
theorem wv1:LpAt G70 ⟨0,36,vhx⟩ Tryz.f133 0:=
 vat rfl (fun x=>(n83n_bp0 x).p) weq wbp (exZ (.exit 0) weq wbp) (fun _ _=>⟨rfl,rfl⟩) (fun z=>by(intro h;cases h)) (fun _ _=>rfl) (fun x=>by kernel_rfl)
def v6o:(q1T⊕q1T)→List AV:=(Sum.elim (fun x=>[.own 0,.lst (.slice tTxn) x.1,.i x.2.1,.i x.2.2.1]) (fun x=>[.own 0,.lst (.slice tTxn) x.1,.i x.2.1,.i x.2.2.1]))
def v6s:(q1T⊕q1T)→St:=(Sum.elim (fun x=>[.arr tTxn x.2.2.2]) (fun x=>[.dep tTxn x.2.2.2 0]))
def vyg:(q1T⊕q1T)→Out×List AV×St:=(Sum.elim (fun z=>((.exit 2),[.own 0,.lst (.slice tTxn) z.1,.i z.2.1,.i z.2.2.1],[.arr tTxn z.2.2.2])) (fun z=>((.exit 2),[.own 0,.lst (.slice tTxn) z.1,.i z.2.1,.i z.2.2.1],[.dep tTxn z.2.2.2 0])))
theorem wfq (x:(q1T⊕q1T)):exec G70 ⟨0,36,vhx⟩ (vdu Tryz.f133 2) (vn6 ⟨0,36,vhx⟩ [6,25,26,27] []) (vha (vf9 36) [6,25,26,27] (v6o x)) (v6s x)=vez x (Sum.elim (fun y=>some ⟨.norm,v6o y,v6s y⟩) fun z=>some ⟨(vyg z).1,(vyg z).2.1,(vyg z).2.2⟩):=by
 rcases x with x|x<;>kernel_rfl
theorem wuv:∀sp,(vhx 2)=some sp→v2u G70 ⟨0,36,vhx⟩ sp (vdu Tryz.f133 2):=by
 intro sp hsp vals st k r h
 cases hsp
 dsimp only at h
 rcases vb6 h with⟨p,q,rfl,rfl,h⟩|h
 ·exact vgl (fun x=>(n83n_bp2 x).p) v6o v6s vyg (fun z=>by rcases z with z|z<;>(intro h;cases h)) wfq Fuel (.inl (p.2.1,p.2.2.1,p.2.2.2.1,q.1)) _ k r (fun z=>by rcases z with z|z<;>rfl) h
 rcases vb6 h with⟨p,q,rfl,rfl,h⟩|h
 ·exact vgl (fun x=>(n83n_bp2 x).p) v6o v6s vyg (fun z=>by rcases z with z|z<;>(intro h;cases h)) wfq Fuel (.inr (p.2.1,p.2.2.1,p.2.2.2.1,q.1)) _ k r (fun z=>by rcases z with z|z<;>rfl) h
 cases h
theorem w3u:vad Tryz.prog 133 ww3:=
 vay G70_ok follows (Tryz.f133.body.getD .skip) Tryz.func133 (by kernel_rfl) fun p q=>⟨vhx,(n83n_p _).p.map2 _ _,by rw [wp1];kernel_rfl,vac (ids:=[0,2]) (by kernel_rfl) (by kernel_rfl) ⟨wv1,⟨wuv,trivial⟩⟩⟩
def G71:Glob:=G70.add 133 ww3
theorem G71_ok:GlobOk Tryz.prog G71:=G70_ok.add ⟨Tryz.f133,Tryz.func133,by kernel_rfl,by kernel_rfl⟩ w3u
def wje:Nat→Option LoopSpec
 |_=>none
theorem w31:vad Tryz.prog 214 ww6:=
 vay G71_ok follows (Tryz.f214.body.getD .skip) Tryz.func214 (by kernel_rfl) fun p q=>⟨wje,(n28n_p _ _ _ _ _ _ _ _ _).p.map _,by rw [wpi];kernel_rfl,vac (ids:=[]) (by kernel_rfl) (by kernel_rfl) trivial⟩
def G72:Glob:=G71.add 214 ww6
theorem G72_ok:GlobOk Tryz.prog G72:=G71_ok.add ⟨Tryz.f214,Tryz.func214,by kernel_rfl,by kernel_rfl⟩ w31
def vwv:q10T→List AV:=fun x=>[.lst tTxn x.1,.fn 214 [.bp 0 0],.i x.2.1,.i x.2.2.1,.i x.2.2.2.1]
def vx5:q10T→St:=fun x=>let xh:=x.2.2.2.2.2.2.2.2;[.box [.i x.2.2.2.2.1,.i x.2.2.2.2.2.1,.i x.2.2.2.2.2.2.1,.i x.2.2.2.2.2.2.2.1,.lst tRange xh.1,.lst tWrite xh.2.1,.bool xh.2.2.1,.str xh.2.2.2]]
def v23:Nat→Option LoopSpec
 |0=>some (lpS [0,1,4,7,8] [] [.lst tTxn,.fn 214 [.bp 0 0],.i,.i,.i] [.box [.i,.i,.i,.i,.lst tRange,.lst tWrite,.bool,.str]] vob (fun p q=>(p.1,p.2.2.1,p.2.2.2.1,p.2.2.2.2.1,q.1.1,q.1.2.1,q.1.2.2.1,q.1.2.2.2.1,q.1.2.2.2.2.1,q.1.2.2.2.2.2.1,q.1.2.2.2.2.2.2.1,q.1.2.2.2.2.2.2.2.1)) (fun k=>(Sum.elim (onE (exZ .ret vwv vx5) k) (onE (exZ (.exit 0) vwv vx5) k))))
 |_=>none
theorem wsk:LpAt G72 ⟨1,19,v23⟩ Tryz.f113 0:=
 vat rfl (fun x=>(n86n_bp0 x).p) vwv vx5 (Sum.elim ((exZ .ret vwv vx5)) ((exZ (.exit 0) vwv vx5))) (fun _ _=>⟨rfl,rfl⟩) (fun z=>by rcases z with z|z<;>(intro h;cases h)) (fun k z=>by rcases z with z|z<;>rfl) (fun x=>by kernel_rfl)
theorem vnn:vad Tryz.prog 113 vgb:=
 vay G72_ok follows (Tryz.f113.body.getD .skip) Tryz.func113 (by kernel_rfl) fun p q=>⟨v23,(n86n_p _ _ _ _ _ _ _ _ _).p.map _,by rw [wm2];kernel_rfl,vac (ids:=[0]) (by kernel_rfl) (by kernel_rfl) ⟨wsk,trivial⟩⟩
def G73:Glob:=G72.add 113 vgb
theorem G73_ok:GlobOk Tryz.prog G73:=G72_ok.add ⟨Tryz.f113,Tryz.func113,by kernel_rfl,by kernel_rfl⟩ vnn
def wjl:Nat→Option LoopSpec
 |_=>none
theorem vlc:vad Tryz.prog 246 vev:=
 vay G73_ok follows (Tryz.f246.body.getD .skip) Tryz.func246 (by kernel_rfl) fun p q=>⟨wjl,(n84n_p _ _ _ _ _ _ _ _ _).p.map _,by rw [wrn];kernel_rfl,vac (ids:=[]) (by kernel_rfl) (by kernel_rfl) trivial⟩
def G74:Glob:=G73.add 246 vev
theorem G74_ok:GlobOk Tryz.prog G74:=G73_ok.add ⟨Tryz.f246,Tryz.func246,by kernel_rfl,by kernel_rfl⟩ vlc
def wkc:Nat→Option LoopSpec
 |_=>none
theorem wey:vad Tryz.prog 202 vz5:=
 vay G74_ok follows (Tryz.f202.body.getD .skip) Tryz.func202 (by kernel_rfl) fun p q=>⟨wkc,(n55n_p _ _ _ _ _ _ _ _ _).p.map _,by rw [wp3];kernel_rfl,vac (ids:=[]) (by kernel_rfl) (by kernel_rfl) trivial⟩
def G75:Glob:=G74.add 202 vz5
theorem G75_ok:GlobOk Tryz.prog G75:=G74_ok.add ⟨Tryz.f202,Tryz.func202,by kernel_rfl,by kernel_rfl⟩ wey
def vwz:q9T→List AV:=fun x=>[.lst tTxn x.1,.i x.2.1,.bool x.2.2.1,.lst tTxn x.2.2.2.1,.i x.2.2.2.2.1,.i x.2.2.2.2.2]
def vxg:q9T→St:=fun x=>[]
def v3k:Nat→Option LoopSpec
 |0=>some (lpS [0,1,4,7,8,9] [] [.lst tTxn,.i,.bool,.lst tTxn,.i,.i] [] vpu (fun p q=>(p.1,p.2.1,p.2.2.1,p.2.2.2.1,p.2.2.2.2.1,p.2.2.2.2.2.1)) (fun k=>(Sum.elim (onE (exZ .ret vwz vxg) k) (onE (exZ (.exit 0) vwz vxg) k))))
 |_=>none
theorem ws8:LpAt G75 ⟨0,26,v3k⟩ Tryz.f132 0:=
 vat rfl (fun x=>(n27n_bp0 x).p) vwz vxg (Sum.elim ((exZ .ret vwz vxg)) ((exZ (.exit 0) vwz vxg))) (fun _ _=>⟨rfl,rfl⟩) (fun z=>by rcases z with z|z<;>(intro h;cases h)) (fun k z=>by rcases z with z|z<;>rfl) (fun x=>by kernel_rfl)
theorem w20:vad Tryz.prog 132 wyj:=
 vay G75_ok follows (Tryz.f132.body.getD .skip) Tryz.func132 (by kernel_rfl) fun p q=>⟨v3k,(n27n_p _ _).p.map _,by rw [wp7];kernel_rfl,vac (ids:=[0]) (by kernel_rfl) (by kernel_rfl) ⟨ws8,trivial⟩⟩
def G76:Glob:=G75.add 132 wyj
theorem G76_ok:GlobOk Tryz.prog G76:=G75_ok.add ⟨Tryz.f132,Tryz.func132,by kernel_rfl,by kernel_rfl⟩ w20
def vzo:q24T→List AV:=fun x=>[.bp 0 0,.bool x.1,.lst tVersion x.2.1,.i x.2.2.1,.i x.2.2.2.1]
def vxy:q24T→St:=fun x=>[.box [.lst tVersion x.2.2.2.2.1,.lst tTxn x.2.2.2.2.2.1,.lst tTxn x.2.2.2.2.2.2.1,.i x.2.2.2.2.2.2.2.1,.i x.2.2.2.2.2.2.2.2]]
def vzg:q22T→List AV:=fun x=>[.bp 0 0,.bool x.1,.lst tTxn x.2.1,.i x.2.2.1,.i x.2.2.2.1]
def vzu:q22T→St:=fun x=>[.box [.lst tVersion x.2.2.2.2.1,.lst tTxn x.2.2.2.2.2.1,.lst tTxn x.2.2.2.2.2.2.1,.i x.2.2.2.2.2.2.2.1,.i x.2.2.2.2.2.2.2.2]]
def vxd:q22T→List AV:=fun x=>[.bp 0 0,.bool x.1,.lst tTxn x.2.1,.i x.2.2.1,.i x.2.2.2.1]
def vw9:q22T→St:=fun x=>[.box [.lst tVersion x.2.2.2.2.1,.lst tTxn x.2.2.2.2.2.1,.lst tTxn x.2.2.2.2.2.2.1,.i x.2.2.2.2.2.2.2.1,.i x.2.2.2.2.2.2.2.2]]
def vjy:q23T→List AV:=fun x=>[.bp 0 0,.bool x.1]
def vk4:q23T→St:=fun x=>[.box [.lst tVersion x.2.1,.lst tTxn x.2.2.1,.lst tTxn x.2.2.2.1,.i x.2.2.2.2.1,.i x.2.2.2.2.2]]
def vl5:Nat→Option LoopSpec
 |0=>some (lpS [1,2,38,39,40] [] [.bp 0 0,.bool,.lst tVersion,.i,.i] [.box [.lst tVersion,.lst tTxn,.lst tTxn,.i,.i]] voy (fun p q=>(p.2.1,p.2.2.1,p.2.2.2.1,p.2.2.2.2.1,q.1.1,q.1.2.1,q.1.2.2.1,q.1.2.2.2.1,q.1.2.2.2.2.1)) (fun k=>(Sum.elim (onE (exZ .ret vzo vxy) k) (onE (exZ (.exit 0) vzo vxy) k))))
 |2=>some (lpS [1,2,51,52,53] [] [.bp 0 0,.bool,.lst tTxn,.i,.i] [.box [.lst tVersion,.lst tTxn,.lst tTxn,.i,.i]] vps (fun p q=>(p.2.1,p.2.2.1,p.2.2.2.1,p.2.2.2.2.1,q.1.1,q.1.2.1,q.1.2.2.1,q.1.2.2.2.1,q.1.2.2.2.2.1)) (fun k=>(Sum.elim (onE (exZ .ret vzg vzu) k) (onE (exZ (.exit 2) vzg vzu) k))))
 |4=>some (lpS [1,2,91,92,93] [] [.bp 0 0,.bool,.lst tTxn,.i,.i] [.box [.lst tVersion,.lst tTxn,.lst tTxn,.i,.i]] vn2 (fun p q=>(p.2.1,p.2.2.1,p.2.2.2.1,p.2.2.2.2.1,q.1.1,q.1.2.1,q.1.2.2.1,q.1.2.2.2.1,q.1.2.2.2.2.1)) (fun k=>(Sum.elim (onE (exZ .ret vxd vw9) k) (onE (exZ (.exit 4) vxd vw9) k))))
 |5000003=>some (ctS [1,2] [] [.bp 0 0,.bool] [.box [.lst tVersion,.lst tTxn,.lst tTxn,.i,.i]] vd7 (fun p q=>(p.2.1,q.1.1,q.1.2.1,q.1.2.2.1,q.1.2.2.2.1,q.1.2.2.2.2.1)) (fun k=>(onE (exZ .ret vjy vk4) k)))
 |2000012=>some ⟨[0,3,4,6,8,11,12,14,16,18,20,22,24,26,28,30,32,34,36,38,40,42,44,46,48,50,52,54,56,58,60],[],fun _ _ _=>none⟩
 |2000018=>some ⟨[0,3,4,6,8,11,12,14,16,18,20,22,24,26,28,30,32,34,36,38,40,42,44,46,48,50,52,54,56,58,60],[],fun _ _ _=>none⟩
 |2000021=>some ⟨[0,2,4,6,12,14,9,11,17,18],[],fun _ _ _=>none⟩
 |_=>none
theorem wt3:LpAt G76 ⟨0,139,vl5⟩ Tryz.f55 0:=
 vat rfl (fun x=>(n04n_bp0 x).p) vzo vxy (Sum.elim ((exZ .ret vzo vxy)) ((exZ (.exit 0) vzo vxy))) (fun _ _=>⟨rfl,rfl⟩) (fun z=>by rcases z with z|z<;>(intro h;cases h)) (fun k z=>by rcases z with z|z<;>rfl) (fun x=>by kernel_rfl)
theorem wv4:LpAt G76 ⟨0,139,vl5⟩ Tryz.f55 2:=
 vat rfl (fun x=>(n04n_bp2 x).p) vzg vzu (Sum.elim ((exZ .ret vzg vzu)) ((exZ (.exit 2) vzg vzu))) (fun _ _=>⟨rfl,rfl⟩) (fun z=>by rcases z with z|z<;>(intro h;cases h)) (fun k z=>by rcases z with z|z<;>rfl) (fun x=>by kernel_rfl)
theorem ws3:LpAt G76 ⟨0,139,vl5⟩ Tryz.f55 4:=
 vat rfl (fun x=>(n04n_bp4 x).p) vxd vw9 (Sum.elim ((exZ .ret vxd vw9)) ((exZ (.exit 4) vxd vw9))) (fun _ _=>⟨rfl,rfl⟩) (fun z=>by rcases z with z|z<;>(intro h;cases h)) (fun k z=>by rcases z with z|z<;>rfl) (fun x=>by kernel_rfl)
theorem v1a:CtAt G76 ⟨0,139,vl5⟩ Tryz.f55 5000003:=
 vbu rfl (fun x=>(n04n_jp5000003 x).p) vjy vk4 (exZ .ret vjy vk4) (fun _ _=>⟨rfl,rfl⟩) (fun _ _=>rfl) (fun x=>by kernel_rfl)
theorem w4b:vad Tryz.prog 55 wxp:=
 vay G76_ok follows (Tryz.f55.body.getD .skip) Tryz.func55 (by kernel_rfl) fun p q=>⟨vl5,(n04n_p _).p.map _,by rw [wln];kernel_rfl,vac (ids:=[0,2,4,5000003]) (by kernel_rfl) (by kernel_rfl) ⟨wt3,⟨wv4,⟨ws3,⟨v1a,trivial⟩⟩⟩⟩⟩
def G77:Glob:=G76.add 55 wxp
theorem G77_ok:GlobOk Tryz.prog G77:=G76_ok.add ⟨Tryz.f55,Tryz.func55,by kernel_rfl,by kernel_rfl⟩ w4b
def wld:Nat→Option LoopSpec
 |2000005=>some ⟨[0,2,4,6,8,10,12,15,16,18,20,22,24],[],fun _ _ _=>none⟩
 |1000001=>some ⟨[0],[],fun _ _ _=>none⟩
 |_=>none
theorem w34:vad Tryz.prog 75 wxq:=
 vay G77_ok follows (Tryz.f75.body.getD .skip) Tryz.func75 (by kernel_rfl) fun p q=>⟨wld,(n35n_p _ _ _).p.map _,by rw [wpj];kernel_rfl,vac (ids:=[]) (by kernel_rfl) (by kernel_rfl) trivial⟩
def G78:Glob:=G77.add 75 wxq
theorem G78_ok:GlobOk Tryz.prog G78:=G77_ok.add ⟨Tryz.f75,Tryz.func75,by kernel_rfl,by kernel_rfl⟩ w34
def wk0:Nat→Option LoopSpec
 |_=>none
theorem w3j:vad Tryz.prog 194 ww1:=
 vay G78_ok follows (Tryz.f194.body.getD .skip) Tryz.func194 (by kernel_rfl) fun p q=>⟨wk0,(n26n_p _).p.map _,by rw [wpt];kernel_rfl,vac (ids:=[]) (by kernel_rfl) (by kernel_rfl) trivial⟩
def G79:Glob:=G78.add 194 ww1
theorem G79_ok:GlobOk Tryz.prog G79:=G78_ok.add ⟨Tryz.f194,Tryz.func194,by kernel_rfl,by kernel_rfl⟩ w3j
def wlc:Nat→Option LoopSpec
 |_=>none
theorem w1z:vad Tryz.prog 195 wwf:=
 vay G79_ok follows (Tryz.f195.body.getD .skip) Tryz.func195 (by kernel_rfl) fun p q=>⟨wlc,(n25n_p _).p.map _,by rw [wl1];kernel_rfl,vac (ids:=[]) (by kernel_rfl) (by kernel_rfl) trivial⟩
def G80:Glob:=G79.add 195 wwf
theorem G80_ok:GlobOk Tryz.prog G80:=G79_ok.add ⟨Tryz.f195,Tryz.func195,by kernel_rfl,by kernel_rfl⟩ w1z
def vjz:q25T→List AV:=fun x=>[.bp 0 0,.bool x.1,.bool x.2.1,.bool x.2.2.1,.bool x.2.2.2.1]
def vkh:q25T→St:=fun x=>let xh:=x.2.2.2.2.2.2.2.2;let xhh:=xh.2.2.2.2.2.2.2.2;[.box [.i x.2.2.2.2.1,.i x.2.2.2.2.2.1,.i x.2.2.2.2.2.2.1,.i x.2.2.2.2.2.2.2.1,.i xh.1,.lst tRange xh.2.1,.lst tWrite xh.2.2.1,.bool xh.2.2.2.1,.str xh.2.2.2.2.1,.str xh.2.2.2.2.2.1,.bool xh.2.2.2.2.2.2.1,.lst tVersion xh.2.2.2.2.2.2.2.1,.lst tTxn xhh.1,.lst tTxn xhh.2.1,.i xhh.2.2.1,.i xhh.2.2.2]]
def v3v:Nat→Option LoopSpec
 |5000012=>some (ctS [1,2,3,4,5] [] [.bp 0 0,.bool,.bool,.bool,.bool] [.box [.i,.i,.i,.i,.i,.lst tRange,.lst tWrite,.bool,.str,.str,.bool,.lst tVersion,.lst tTxn,.lst tTxn,.i,.i]] vby (fun p q=>(p.2.1,p.2.2.1,p.2.2.2.1,p.2.2.2.2.1,q.1.1,q.1.2.1,q.1.2.2.1,q.1.2.2.2.1,q.1.2.2.2.2.1,q.1.2.2.2.2.2.1,q.1.2.2.2.2.2.2.1,q.1.2.2.2.2.2.2.2.1,q.1.2.2.2.2.2.2.2.2.1,q.1.2.2.2.2.2.2.2.2.2.1,q.1.2.2.2.2.2.2.2.2.2.2.1,q.1.2.2.2.2.2.2.2.2.2.2.2.1,q.1.2.2.2.2.2.2.2.2.2.2.2.2.1,q.1.2.2.2.2.2.2.2.2.2.2.2.2.2.1,q.1.2.2.2.2.2.2.2.2.2.2.2.2.2.2.1,q.1.2.2.2.2.2.2.2.2.2.2.2.2.2.2.2.1)) (fun k=>(onE (exZ .ret vjz vkh) k)))
 |2000001=>some ⟨[0,2,6,8,10,12,14,5,17,18,20,22],[],fun _ _ _=>none⟩
 |_=>none
theorem v2b:CtAt G80 ⟨0,64,v3v⟩ Tryz.f103 5000012:=
 vbu rfl (fun x=>(n11n_jp5000012 x).p) vjz vkh (exZ .ret vjz vkh) (fun _ _=>⟨rfl,rfl⟩) (fun _ _=>rfl) (fun x=>by kernel_rfl)
theorem w2h:vad Tryz.prog 103 wwc:=
 vay G80_ok follows (Tryz.f103.body.getD .skip) Tryz.func103 (by kernel_rfl) fun p q=>⟨v3v,(n11n_p _).p.map _,by rw [wqy];kernel_rfl,vac (ids:=[5000012]) (by kernel_rfl) (by kernel_rfl) ⟨v2b,trivial⟩⟩
def G81:Glob:=G80.add 103 wwc
theorem G81_ok:GlobOk Tryz.prog G81:=G80_ok.add ⟨Tryz.f103,Tryz.func103,by kernel_rfl,by kernel_rfl⟩ w2h
def wkd:Nat→Option LoopSpec
 |_=>none
theorem w3l:vad Tryz.prog 229 wwj:=
 vay G81_ok follows (Tryz.f229.body.getD .skip) Tryz.func229 (by kernel_rfl) fun p q=>⟨wkd,(n14n_p _).p.map _,by rw [woq];kernel_rfl,vac (ids:=[]) (by kernel_rfl) (by kernel_rfl) trivial⟩
def G82:Glob:=G81.add 229 wwj
theorem G82_ok:GlobOk Tryz.prog G82:=G81_ok.add ⟨Tryz.f229,Tryz.func229,by kernel_rfl,by kernel_rfl⟩ w3l
def vl8:Nat→Option LoopSpec
 |0=>some ⟨[0,8,9,10],[],fun vals st k=>val [.bp 0 0,.lst .str,.i,.i] [.box [.own 1],.arr (.int .u8)] vals st (fun p q=>vae voe Fuel (.inl (p.2.1,p.2.2.1,p.2.2.2.1,q.2.1)) (Sum.elim (fun z=>k (.exit 0) [.bp 0 0,.lst .str z.1,.i z.2.1,.i z.2.2.1] [.box [.own 1],.arr (.int .u8) z.2.2.2]) (fun z=>k (.exit 0) [.bp 0 0,.lst .str z.1,.i z.2.1,.i z.2.2.1] [.box [.own 2],.gone,.arr (.int .u8) z.2.2.2])))
   (val [.bp 0 0,.lst .str,.i,.i] [.box [.own 2],.gone,.arr (.int .u8)] vals st (fun p q=>vae voe Fuel (.inr (p.2.1,p.2.2.1,p.2.2.2.1,q.2.2.1)) (Sum.elim (fun z=>k (.exit 0) [.bp 0 0,.lst .str z.1,.i z.2.1,.i z.2.2.1] [.box [.own 1],.arr (.int .u8) z.2.2.2]) (fun z=>k (.exit 0) [.bp 0 0,.lst .str z.1,.i z.2.1,.i z.2.2.1] [.box [.own 2],.gone,.arr (.int .u8) z.2.2.2])))
   (none))⟩
 |_=>none
def v5l:(q2T⊕q2T)→List AV:=(Sum.elim (fun x=>[.bp 0 0,.lst .str x.1,.i x.2.1,.i x.2.2.1]) (fun x=>[.bp 0 0,.lst .str x.1,.i x.2.1,.i x.2.2.1]))
def v6g:(q2T⊕q2T)→St:=(Sum.elim (fun x=>[.box [.own 1],.arr (.int .u8) x.2.2.2]) (fun x=>[.box [.own 2],.gone,.arr (.int .u8) x.2.2.2]))
def vxj:(q2T⊕q2T)→Out×List AV×St:=(Sum.elim (fun z=>((.exit 0),[.bp 0 0,.lst .str z.1,.i z.2.1,.i z.2.2.1],[.box [.own 1],.arr (.int .u8) z.2.2.2])) (fun z=>((.exit 0),[.bp 0 0,.lst .str z.1,.i z.2.1,.i z.2.2.1],[.box [.own 2],.gone,.arr (.int .u8) z.2.2.2])))
theorem wf1 (x:(q2T⊕q2T)):exec G82 ⟨2,29,vl8⟩ (vdu Tryz.f164 0) (vn6 ⟨2,29,vl8⟩ [0,8,9,10] []) (vha (vf9 29) [0,8,9,10] (v5l x)) (v6g x)=voe x (Sum.elim (fun y=>some ⟨.norm,v5l y,v6g y⟩) fun z=>some ⟨(vxj z).1,(vxj z).2.1,(vxj z).2.2⟩):=by
 rcases x with x|x<;>kernel_rfl
theorem wry:∀sp,(vl8 0)=some sp→v2u G82 ⟨2,29,vl8⟩ sp (vdu Tryz.f164 0):=by
 intro sp hsp vals st k r h
 cases hsp
 dsimp only at h
 rcases vb6 h with⟨p,q,rfl,rfl,h⟩|h
 ·exact vgl (fun x=>(n34n_bp0 x).p) v5l v6g vxj (fun z=>by rcases z with z|z<;>(intro h;cases h)) wf1 Fuel (.inl (p.2.1,p.2.2.1,p.2.2.2.1,q.2.1)) _ k r (fun z=>by rcases z with z|z<;>rfl) h
 rcases vb6 h with⟨p,q,rfl,rfl,h⟩|h
 ·exact vgl (fun x=>(n34n_bp0 x).p) v5l v6g vxj (fun z=>by rcases z with z|z<;>(intro h;cases h)) wf1 Fuel (.inr (p.2.1,p.2.2.1,p.2.2.2.1,q.2.2.1)) _ k r (fun z=>by rcases z with z|z<;>rfl) h
 cases h
theorem w2f:vad Tryz.prog 164 wyd:=
 vay G82_ok follows (Tryz.f164.body.getD .skip) Tryz.func164 (by kernel_rfl) fun p q=>⟨vl8,(n34n_p _ _).p.map2 _ _,by rw [wh4];kernel_rfl,vac (ids:=[0]) (by kernel_rfl) (by kernel_rfl) ⟨wry,trivial⟩⟩
def G83:Glob:=G82.add 164 wyd
theorem G83_ok:GlobOk Tryz.prog G83:=G82_ok.add ⟨Tryz.f164,Tryz.func164,by kernel_rfl,by kernel_rfl⟩ w2f
def v2d:(Int×(List Int))→List AV:=fun x=>[.bp 0 0,.int .u8 x.1]
def v1l:(Int×(List Int))→St:=fun x=>[.box [.own 1],.arr (.int .u8) x.2]
def vp8:(Int×(List Int))→Out×List AV×St:=fun z=>(.norm,[.bp 0 0,.int .u8 z.1],[.box [.own 2],.gone,.arr (.int .u8) z.2])
def v44:Nat→Option LoopSpec
 |5000003=>some (ctS [0,4] [] [.bp 0 0,.int .u8] [.box [.own 1],.arr (.int .u8)] vd6 (fun p q=>(p.2.1,q.2.1)) (fun k=>(onE vp8 k)))
 |_=>none
theorem v00:CtAt G83 ⟨2,16,v44⟩ Tryz.f165 5000003:=
 vbu rfl (fun x=>(n31n_jp5000003 x).p) v2d v1l vp8 (fun _ _=>⟨rfl,rfl⟩) (fun _ _=>rfl) (fun x=>by kernel_rfl)
theorem w2p:vad Tryz.prog 165 wyk:=
 vay G83_ok follows (Tryz.f165.body.getD .skip) Tryz.func165 (by kernel_rfl) fun p q=>⟨v44,(n31n_p _ _).p.map _,by rw [wq5];kernel_rfl,vac (ids:=[5000003]) (by kernel_rfl) (by kernel_rfl) ⟨v00,trivial⟩⟩
def G84:Glob:=G83.add 165 wyk
theorem G84_ok:GlobOk Tryz.prog G84:=G83_ok.add ⟨Tryz.f165,Tryz.func165,by kernel_rfl,by kernel_rfl⟩ w2p
def wcq:q3T→List AV:=fun x=>[.bp 0 0,.lst (.i) x.1,.i x.2.1,.i x.2.2.1]
def we2:q3T→St:=fun x=>[.box [.own 1],.arr (.int .u8) x.2.2.2]
def v3r:Nat→Option LoopSpec
 |0=>some (lpS [0,8,9,10] [none,none,none,none,some (.int .u8)] [.bp 0 0,.lst (.i),.i,.i] [.box [.own 1],.arr (.int .u8)] vpl (fun p q=>(p.2.1,p.2.2.1,p.2.2.2.1,q.2.1)) (fun k=>(onE (exZ (.exit 0) wcq we2) k)))
 |_=>none
theorem wuc:LpAt G84 ⟨1,29,v3r⟩ Tryz.f230 0:=
 vat rfl (fun x=>(n32n_bp0 x).p) wcq we2 (exZ (.exit 0) wcq we2) (fun _ _=>⟨rfl,rfl⟩) (fun z=>by(intro h;cases h)) (fun _ _=>rfl) (fun x=>by kernel_rfl)
def vl2:Nat→Option LoopSpec
 |0=>some ⟨[0,8,9,10],[],fun vals st k=>val [.bp 0 0,.lst (.i),.i,.i] [.box [.own 1],.arr (.int .u8)] vals st (fun p q=>vae vsn Fuel (.inl (p.2.1,p.2.2.1,p.2.2.2.1,q.2.1)) (Sum.elim (fun z=>k (.exit 0) [.bp 0 0,.lst (.i) z.1,.i z.2.1,.i z.2.2.1] [.box [.own 1],.arr (.int .u8) z.2.2.2]) (fun z=>k (.exit 0) [.bp 0 0,.lst (.i) z.1,.i z.2.1,.i z.2.2.1] [.box [.own 2],.gone,.arr (.int .u8) z.2.2.2])))
   (val [.bp 0 0,.lst (.i),.i,.i] [.box [.own 2],.gone,.arr (.int .u8)] vals st (fun p q=>vae vsn Fuel (.inr (p.2.1,p.2.2.1,p.2.2.2.1,q.2.2.1)) (Sum.elim (fun z=>k (.exit 0) [.bp 0 0,.lst (.i) z.1,.i z.2.1,.i z.2.2.1] [.box [.own 1],.arr (.int .u8) z.2.2.2]) (fun z=>k (.exit 0) [.bp 0 0,.lst (.i) z.1,.i z.2.1,.i z.2.2.1] [.box [.own 2],.gone,.arr (.int .u8) z.2.2.2])))
   (none))⟩
 |_=>none
def v52:(q3T⊕q3T)→List AV:=(Sum.elim (fun x=>[.bp 0 0,.lst (.i) x.1,.i x.2.1,.i x.2.2.1]) (fun x=>[.bp 0 0,.lst (.i) x.1,.i x.2.1,.i x.2.2.1]))
def v5n:(q3T⊕q3T)→St:=(Sum.elim (fun x=>[.box [.own 1],.arr (.int .u8) x.2.2.2]) (fun x=>[.box [.own 2],.gone,.arr (.int .u8) x.2.2.2]))
def vx3:(q3T⊕q3T)→Out×List AV×St:=(Sum.elim (fun z=>((.exit 0),[.bp 0 0,.lst (.i) z.1,.i z.2.1,.i z.2.2.1],[.box [.own 1],.arr (.int .u8) z.2.2.2])) (fun z=>((.exit 0),[.bp 0 0,.lst (.i) z.1,.i z.2.1,.i z.2.2.1],[.box [.own 2],.gone,.arr (.int .u8) z.2.2.2])))
theorem wfx (x:(q3T⊕q3T)):exec G84 ⟨2,29,vl2⟩ (vdu Tryz.f230 0) (vn6 ⟨2,29,vl2⟩ [0,8,9,10] []) (vha (vf9 29) [0,8,9,10] (v52 x)) (v5n x)=vsn x (Sum.elim (fun y=>some ⟨.norm,v52 y,v5n y⟩) fun z=>some ⟨(vx3 z).1,(vx3 z).2.1,(vx3 z).2.2⟩):=by
 rcases x with x|x<;>kernel_rfl
theorem wr1:∀sp,(vl2 0)=some sp→v2u G84 ⟨2,29,vl2⟩ sp (vdu Tryz.f230 0):=by
 intro sp hsp vals st k r h
 cases hsp
 dsimp only at h
 rcases vb6 h with⟨p,q,rfl,rfl,h⟩|h
 ·exact vgl (fun x=>(n33n_bp0 x).p) v52 v5n vx3 (fun z=>by rcases z with z|z<;>(intro h;cases h)) wfx Fuel (.inl (p.2.1,p.2.2.1,p.2.2.2.1,q.2.1)) _ k r (fun z=>by rcases z with z|z<;>rfl) h
 rcases vb6 h with⟨p,q,rfl,rfl,h⟩|h
 ·exact vgl (fun x=>(n33n_bp0 x).p) v52 v5n vx3 (fun z=>by rcases z with z|z<;>(intro h;cases h)) wfx Fuel (.inr (p.2.1,p.2.2.1,p.2.2.2.1,q.2.2.1)) _ k r (fun z=>by rcases z with z|z<;>rfl) h
 cases h
theorem w1o:vad Tryz.prog 230 v9y:=by
 refine told G84_ok follows Tryz.func230 (c:=Tryz.f230.body.getD .skip) (by kernel_rfl) ?_
 intro args s k r hk
 unfold v9y at hk
 rcases vce hk with⟨p,q,rfl,rfl⟩|hk
 ·exact⟨v3r,(n32n_p p.2.1).p.map _,by unfold v9y;rw [wmd];kernel_rfl,vac (ids:=[0]) (by kernel_rfl) (by kernel_rfl) ⟨wuc,trivial⟩⟩
 rcases vce hk with⟨p,q,rfl,rfl⟩|hk
 ·exact⟨vl2,(n33n_p p.2.1 q.2.1).p.map2 _ _,by unfold v9y;rw [wps];kernel_rfl,vac (ids:=[0]) (by kernel_rfl) (by kernel_rfl) ⟨wr1,trivial⟩⟩
 cases hk
def G85:Glob:=G84.add 230 v9y
theorem G85_ok:GlobOk Tryz.prog G85:=G84_ok.add ⟨Tryz.f230,Tryz.func230,by kernel_rfl,by kernel_rfl⟩ w1o
def wc3:q5T→List AV:=fun x=>[.bp 0 0,.bp 1 0,.lst tRange x.1,.i x.2.1,.i x.2.2.1]
def wdh:q5T→St:=fun x=>let xh:=x.2.2.2.2.2.2.2.2;[.box [.i x.2.2.2.1,.i x.2.2.2.2.1,.i x.2.2.2.2.2.1,.i x.2.2.2.2.2.2.1,.lst tRange x.2.2.2.2.2.2.2.1,.lst tWrite xh.1,.bool xh.2.1,.str xh.2.2.1],.box [.own 2],.arr (.int .u8) xh.2.2.2]
def wdu:q19T→List AV:=fun x=>[.bp 0 0,.bp 1 0,.lst tWrite x.1,.i x.2.1,.i x.2.2.1]
def weu:q19T→St:=fun x=>let xh:=x.2.2.2.2.2.2.2.2;[.box [.i x.2.2.2.1,.i x.2.2.2.2.1,.i x.2.2.2.2.2.1,.i x.2.2.2.2.2.2.1,.lst tRange x.2.2.2.2.2.2.2.1,.lst tWrite xh.1,.bool xh.2.1,.str xh.2.2.1],.box [.own 2],.arr (.int .u8) xh.2.2.2]
def vuf:Nat→Option LoopSpec
 |0=>some (lpS [1,4,29,30,31] [] [.bp 0 0,.bp 1 0,.lst tRange,.i,.i] [.box [.i,.i,.i,.i,.lst tRange,.lst tWrite,.bool,.str],.box [.own 2],.arr (.int .u8)] vp5 (fun p q=>(p.2.2.1,p.2.2.2.1,p.2.2.2.2.1,q.1.1,q.1.2.1,q.1.2.2.1,q.1.2.2.2.1,q.1.2.2.2.2.1,q.1.2.2.2.2.2.1,q.1.2.2.2.2.2.2.1,q.1.2.2.2.2.2.2.2.1,q.2.2.1)) (fun k=>(onE (exZ (.exit 0) wc3 wdh) k)))
 |2=>some (lpS [1,4,50,51,52] [] [.bp 0 0,.bp 1 0,.lst tWrite,.i,.i] [.box [.i,.i,.i,.i,.lst tRange,.lst tWrite,.bool,.str],.box [.own 2],.arr (.int .u8)] vna (fun p q=>(p.2.2.1,p.2.2.2.1,p.2.2.2.2.1,q.1.1,q.1.2.1,q.1.2.2.1,q.1.2.2.2.1,q.1.2.2.2.2.1,q.1.2.2.2.2.2.1,q.1.2.2.2.2.2.2.1,q.1.2.2.2.2.2.2.2.1,q.2.2.1)) (fun k=>(onE (exZ (.exit 2) wdu weu) k)))
 |_=>none
theorem ws9:LpAt G85 ⟨0,82,vuf⟩ Tryz.f167 0:=
 vat rfl (fun x=>(n18n_bp0 x).p) wc3 wdh (exZ (.exit 0) wc3 wdh) (fun _ _=>⟨rfl,rfl⟩) (fun z=>by(intro h;cases h)) (fun _ _=>rfl) (fun x=>by kernel_rfl)
theorem wt1:LpAt G85 ⟨0,82,vuf⟩ Tryz.f167 2:=
 vat rfl (fun x=>(n18n_bp2 x).p) wdu weu (exZ (.exit 2) wdu weu) (fun _ _=>⟨rfl,rfl⟩) (fun z=>by(intro h;cases h)) (fun _ _=>rfl) (fun x=>by kernel_rfl)
theorem w2n:vad Tryz.prog 167 wxu:=
 vay G85_ok follows (Tryz.f167.body.getD .skip) Tryz.func167 (by kernel_rfl) fun p q=>⟨vuf,(n18n_p _).p.map _,by rw [wrb];kernel_rfl,vac (ids:=[0,2]) (by kernel_rfl) (by kernel_rfl) ⟨ws9,⟨wt1,trivial⟩⟩⟩
def G86:Glob:=G85.add 167 wxu
theorem G86_ok:GlobOk Tryz.prog G86:=G85_ok.add ⟨Tryz.f167,Tryz.func167,by kernel_rfl,by kernel_rfl⟩ w2n
def wcl:q15T→List AV:=fun x=>[.bp 0 0,.bp 1 0,.lst tVersion x.1,.i x.2.1,.i x.2.2.1]
def wet:q15T→St:=fun x=>[.box [.lst tVersion x.2.2.2.1,.lst tTxn x.2.2.2.2.1,.lst tTxn x.2.2.2.2.2.1,.i x.2.2.2.2.2.2.1,.i x.2.2.2.2.2.2.2.1],.box [.own 2],.arr (.int .u8) x.2.2.2.2.2.2.2.2]
def wb3:q61T→List AV:=fun x=>[.bp 0 0,.own 1,.i x.1,.i x.2.1,.lst tTxn x.2.2.1,.i x.2.2.2.1,.i x.2.2.2.2.1]
def wcd:q61T→St:=fun x=>[.box [.own 2],.arr (.slice tTxn) x.2.2.2.2.2.1,.arr (.int .u8) x.2.2.2.2.2.2]
def wc8:q60T→List AV:=fun x=>[.bp 0 0,.own 1,.i x.1,.i x.2.1]
def wdi:q60T→St:=fun x=>[.box [.own 2],.arr (.slice tTxn) x.2.2.1,.arr (.int .u8) x.2.2.2]
def vqf:Nat→Option LoopSpec
 |0=>some (lpS [1,4,29,30,31] [] [.bp 0 0,.bp 1 0,.lst tVersion,.i,.i] [.box [.lst tVersion,.lst tTxn,.lst tTxn,.i,.i],.box [.own 2],.arr (.int .u8)] voq (fun p q=>(p.2.2.1,p.2.2.2.1,p.2.2.2.2.1,q.1.1,q.1.2.1,q.1.2.2.1,q.1.2.2.2.1,q.1.2.2.2.2.1,q.2.2.1)) (fun k=>(onE (exZ (.exit 0) wcl wet) k)))
 |4=>some (lpS [4,56,57,58,67,68,69] [] [.bp 0 0,.own 1,.i,.i,.lst tTxn,.i,.i] [.box [.own 2],.arr (.slice tTxn),.arr (.int .u8)] vol (fun p q=>(p.2.2.1,p.2.2.2.1,p.2.2.2.2.1,p.2.2.2.2.2.1,p.2.2.2.2.2.2.1,q.2.1,q.2.2.1)) (fun k=>(onE (exZ (.exit 4) wb3 wcd) k)))
 |2=>some (lpS [4,56,57,58] [] [.bp 0 0,.own 1,.i,.i] [.box [.own 2],.arr (.slice tTxn),.arr (.int .u8)] vke (fun p q=>(p.2.2.1,p.2.2.2.1,q.2.1,q.2.2.1)) (fun k=>(onE (exZ (.exit 2) wc8 wdi) k)))
 |_=>none
theorem wvd:LpAt G86 ⟨0,94,vqf⟩ Tryz.f166 0:=
 vat rfl (fun x=>(n05n_bp0 x).p) wcl wet (exZ (.exit 0) wcl wet) (fun _ _=>⟨rfl,rfl⟩) (fun z=>by(intro h;cases h)) (fun _ _=>rfl) (fun x=>by kernel_rfl)
theorem wsc:LpAt G86 ⟨0,94,vqf⟩ Tryz.f166 4:=
 vat rfl (fun x=>(n05n_bp4 x).p) wb3 wcd (exZ (.exit 4) wb3 wcd) (fun _ _=>⟨rfl,rfl⟩) (fun z=>by(intro h;cases h)) (fun _ _=>rfl) (fun x=>by kernel_rfl)
theorem wt4:LpAt G86 ⟨0,94,vqf⟩ Tryz.f166 2:=
 vat rfl (fun x=>(n05n_bp2 x).p) wc8 wdi (exZ (.exit 2) wc8 wdi) (fun _ _=>⟨rfl,rfl⟩) (fun z=>by(intro h;cases h)) (fun _ _=>rfl) (fun x=>by kernel_rfl)
theorem w2x:vad Tryz.prog 166 wwv:=
 vay G86_ok follows (Tryz.f166.body.getD .skip) Tryz.func166 (by kernel_rfl) fun p q=>⟨vqf,(n05n_p _).p.map _,by rw [wrr];kernel_rfl,vac (ids:=[0,4,2]) (by kernel_rfl) (by kernel_rfl) ⟨wvd,⟨wsc,⟨wt4,trivial⟩⟩⟩⟩
def G87:Glob:=G86.add 166 wwv
theorem G87_ok:GlobOk Tryz.prog G87:=G86_ok.add ⟨Tryz.f166,Tryz.func166,by kernel_rfl,by kernel_rfl⟩ w2x
def vkn:q36T→List AV:=fun x=>[.str x.1,.bool x.2.1,.bp 0 0]
def vjx:q36T→St:=fun x=>[.box [.own 1],.arr (.int .u8) x.2.2]
def v2p:Nat→Option LoopSpec
 |5000013=>some (ctS [2,3,4] [] [.str,.bool,.bp 0 0] [.box [.own 1],.arr (.int .u8)] vc1 (fun p q=>(p.1,p.2.1,q.2.1)) (fun k=>(onE (exZ .ret vkn vjx) k)))
 |_=>none
theorem v0v:CtAt G87 ⟨0,71,v2p⟩ Tryz.f77 5000013:=
 vbu rfl (fun x=>(n12n_jp5000013 x).p) vkn vjx (exZ .ret vkn vjx) (fun _ _=>⟨rfl,rfl⟩) (fun _ _=>rfl) (fun x=>by kernel_rfl)
theorem w1v:vad Tryz.prog 77 wyh:=
 vay G87_ok follows (Tryz.f77.body.getD .skip) Tryz.func77 (by kernel_rfl) fun p q=>⟨v2p,(n12n_p _).p.map _,by rw [wrp];kernel_rfl,vac (ids:=[5000013]) (by kernel_rfl) (by kernel_rfl) ⟨v0v,trivial⟩⟩
def G88:Glob:=G87.add 77 wyh
theorem G88_ok:GlobOk Tryz.prog G88:=G87_ok.add ⟨Tryz.f77,Tryz.func77,by kernel_rfl,by kernel_rfl⟩ w1v
def vkk:q42T→List AV:=fun x=>[.str x.1,.bp 0 0,.bool x.2.1,.bp 1 0,.bp 2 0]
def vlf:q42T→St:=fun x=>let xh:=x.2.2.2.2.2.2.2.2;let xhh:=xh.2.2.2.2.2.2.2.2;let xhhh:=xhh.2.2.2.2.2.2.2.2;let xhhhh:=xhhh.2.2.2.2.2.2.2.2;[.box [.i x.2.2.1,.i x.2.2.2.1,.i x.2.2.2.2.1,.i x.2.2.2.2.2.1,.i x.2.2.2.2.2.2.1,.own 3,.own 4,.bool x.2.2.2.2.2.2.2.1,.str xh.1,.str xh.2.1,.bool xh.2.2.1,.own 5,.own 6,.own 7,.i xh.2.2.2.1,.i xh.2.2.2.2.1],.box [.i xh.2.2.2.2.2.1,.i xh.2.2.2.2.2.2.1,.i xh.2.2.2.2.2.2.2.1,.i xhh.1,.i xhh.2.1,.own 8,.own 9,.bool xhh.2.2.1,.str xhh.2.2.2.1,.str xhh.2.2.2.2.1,.bool xhh.2.2.2.2.2.1,.own 10,.own 11,.own 12,.i xhh.2.2.2.2.2.2.1,.i xhh.2.2.2.2.2.2.2.1],.box [.str xhhh.1,.i xhhh.2.1,.bool xhhh.2.2.1],.arr tRange xhhh.2.2.2.1,.arr tWrite xhhh.2.2.2.2.1,.arr tVersion xhhh.2.2.2.2.2.1,.dep tTxn xhhh.2.2.2.2.2.2.1 0,.dep tTxn xhhh.2.2.2.2.2.2.2.1 0,.arr tRange xhhhh.1,.arr tWrite xhhhh.2.1,.arr tVersion xhhhh.2.2.1,.dep tTxn xhhhh.2.2.2.1 0,.dep tTxn xhhhh.2.2.2.2 0]
def vqc:q43T→Out×List AV×St:=fun z=>let zh:=z.2.2.2.2.2.2.2.2;let zhh:=zh.2.2.2.2.2.2.2.2;let zhhh:=zhh.2.2.2.2.2.2.2.2;(.ret,[.str z.1,.bp 0 0,.bool z.2.1,.bp 1 0,.bp 2 0],[.box [.i z.2.2.1,.i z.2.2.2.1,.i z.2.2.2.2.1,.i z.2.2.2.2.2.1,.i z.2.2.2.2.2.2.1,.own 3,.own 4,.bool z.2.2.2.2.2.2.2.1,.str zh.1,.str zh.2.1,.bool zh.2.2.1,.own 5,.own 6,.own 7,.i zh.2.2.2.1,.i zh.2.2.2.2.1],.box [.i zh.2.2.2.2.2.1,.i zh.2.2.2.2.2.2.1,.i zh.2.2.2.2.2.2.2.1,.i zhh.1,.i zhh.2.1,.own 3,.own 4,.bool zhh.2.2.1,.str zhh.2.2.2.1,.str zhh.2.2.2.2.1,.bool zhh.2.2.2.2.2.1,.own 5,.own 6,.own 7,.i zhh.2.2.2.2.2.2.1,.i zhh.2.2.2.2.2.2.2.1],.box [.str zhhh.1,.i zhhh.2.1,.bool zhhh.2.2.1],.arr tRange zhhh.2.2.2.1,.arr tWrite zhhh.2.2.2.2.1,.arr tVersion zhhh.2.2.2.2.2.1,.dep tTxn zhhh.2.2.2.2.2.2.1 0,.dep tTxn zhhh.2.2.2.2.2.2.2 0])
def v04:q38T→List AV:=fun x=>[.str x.1,.bp 0 0,.bool x.2.1,.str x.2.2.1]
def v07:q38T→St:=fun x=>let xh:=x.2.2.2.2.2.2.2.2;let xhh:=xh.2.2.2.2.2.2.2.2;[.box [.i x.2.2.2.1,.i x.2.2.2.2.1,.i x.2.2.2.2.2.1,.i x.2.2.2.2.2.2.1,.i x.2.2.2.2.2.2.2.1,.own 1,.own 2,.bool xh.1,.str xh.2.1,.str xh.2.2.1,.bool xh.2.2.2.1,.own 3,.own 4,.own 5,.i xh.2.2.2.2.1,.i xh.2.2.2.2.2.1],.arr tRange xh.2.2.2.2.2.2.1,.arr tWrite xh.2.2.2.2.2.2.2.1,.arr tVersion xhh.1,.dep tTxn xhh.2.1 0,.dep tTxn xhh.2.2 0]
def vpn:q39T→Out×List AV×St:=fun z=>let zh:=z.2.2.2.2.2.2.2.2;let zhh:=zh.2.2.2.2.2.2.2.2;(.ret,[.str z.1,.bp 0 0,.bool z.2.1,.dead],[.box [.i z.2.2.1,.i z.2.2.2.1,.i z.2.2.2.2.1,.i z.2.2.2.2.2.1,.i z.2.2.2.2.2.2.1,.own 1,.own 2,.bool z.2.2.2.2.2.2.2.1,.str zh.1,.str zh.2.1,.bool zh.2.2.1,.own 3,.own 4,.own 5,.i zh.2.2.2.1,.i zh.2.2.2.2.1],.arr tRange zh.2.2.2.2.2.1,.arr tWrite zh.2.2.2.2.2.2.1,.arr tVersion zh.2.2.2.2.2.2.2.1,.dep tTxn zhh.1 0,.dep tTxn zhh.2 0])
def vuj:Nat→Option LoopSpec
 |5000013=>some (ctS [0,2,3,6,7] [none,none,none,none,none,none,none,none,none,none,some tRange,some tWrite,none,none,none,none,some tVersion,some tTxn,some tTxn,none,none,none,none,none,none,none,some tRange,some tWrite,none,none,none,none,some tVersion,some tTxn,some tTxn] [.str,.bp 0 0,.bool,.bp 1 0,.bp 2 0] [.box [.i,.i,.i,.i,.i,.own 3,.own 4,.bool,.str,.str,.bool,.own 5,.own 6,.own 7,.i,.i],.box [.i,.i,.i,.i,.i,.own 8,.own 9,.bool,.str,.str,.bool,.own 10,.own 11,.own 12,.i,.i],.box [.str,.i,.bool],.arr tRange,.arr tWrite,.arr tVersion,.dep tTxn 0,.dep tTxn 0,.arr tRange,.arr tWrite,.arr tVersion,.dep tTxn 0,.dep tTxn 0] vb0 (fun p q=>(p.1,p.2.2.1,q.1.1,q.1.2.1,q.1.2.2.1,q.1.2.2.2.1,q.1.2.2.2.2.1,q.1.2.2.2.2.2.2.2.1,q.1.2.2.2.2.2.2.2.2.1,q.1.2.2.2.2.2.2.2.2.2.1,q.1.2.2.2.2.2.2.2.2.2.2.1,q.1.2.2.2.2.2.2.2.2.2.2.2.2.2.2.1,q.1.2.2.2.2.2.2.2.2.2.2.2.2.2.2.2.1,q.2.1.1,q.2.1.2.1,q.2.1.2.2.1,q.2.1.2.2.2.1,q.2.1.2.2.2.2.1,q.2.1.2.2.2.2.2.2.2.1,q.2.1.2.2.2.2.2.2.2.2.1,q.2.1.2.2.2.2.2.2.2.2.2.1,q.2.1.2.2.2.2.2.2.2.2.2.2.1,q.2.1.2.2.2.2.2.2.2.2.2.2.2.2.2.2.1,q.2.1.2.2.2.2.2.2.2.2.2.2.2.2.2.2.2.1,q.2.2.1.1,q.2.2.1.2.1,q.2.2.1.2.2.1,q.2.2.2.1,q.2.2.2.2.1,q.2.2.2.2.2.1,q.2.2.2.2.2.2.1,q.2.2.2.2.2.2.2.1,q.2.2.2.2.2.2.2.2.1,q.2.2.2.2.2.2.2.2.2.1,q.2.2.2.2.2.2.2.2.2.2.1,q.2.2.2.2.2.2.2.2.2.2.2.1,q.2.2.2.2.2.2.2.2.2.2.2.2.1)) (fun k=>(Sum.elim (onE (exZ .ret vkk vlf) k) (onE vqc k))))
 |5000004=>some (ctS [0,2,3,4] [none,none,none,none,none,none,none,none,none,some tRange,some tWrite,none,none,none,none,some tVersion,some tTxn,some tTxn] [.str,.bp 0 0,.bool,.str] [.box [.i,.i,.i,.i,.i,.own 1,.own 2,.bool,.str,.str,.bool,.own 3,.own 4,.own 5,.i,.i],.arr tRange,.arr tWrite,.arr tVersion,.dep tTxn 0,.dep tTxn 0] vfi (fun p q=>(p.1,p.2.2.1,p.2.2.2.1,q.1.1,q.1.2.1,q.1.2.2.1,q.1.2.2.2.1,q.1.2.2.2.2.1,q.1.2.2.2.2.2.2.2.1,q.1.2.2.2.2.2.2.2.2.1,q.1.2.2.2.2.2.2.2.2.2.1,q.1.2.2.2.2.2.2.2.2.2.2.1,q.1.2.2.2.2.2.2.2.2.2.2.2.2.2.2.1,q.1.2.2.2.2.2.2.2.2.2.2.2.2.2.2.2.1,q.2.1,q.2.2.1,q.2.2.2.1,q.2.2.2.2.1,q.2.2.2.2.2.1)) (fun k=>(onE vpn k)))
 |3000000=>some ⟨[],[none,none,none,none,none,some tRange,some tWrite,none,none,none,none,some tVersion,some tTxn,some tTxn],fun _ _ _=>none⟩
 |_=>none
theorem v1c:CtAt G88 ⟨0,67,vuj⟩ Tryz.f10 5000013:=
 vbu rfl (fun x=>(n08n_jp5000013 x).p) vkk vlf (Sum.elim ((exZ .ret vkk vlf)) (vqc)) (fun _ _=>⟨rfl,rfl⟩) (fun k z=>by rcases z with z|z<;>rfl) (fun x=>by kernel_rfl)
theorem v2c:CtAt G88 ⟨0,67,vuj⟩ Tryz.f10 5000004:=
 vbu rfl (fun x=>(n08n_jp5000004 x).p) v04 v07 vpn (fun _ _=>⟨rfl,rfl⟩) (fun _ _=>rfl) (fun x=>by kernel_rfl)
theorem w1n:vad Tryz.prog 10 wws:=
 vay G88_ok follows (Tryz.f10.body.getD .skip) Tryz.func10 (by kernel_rfl) fun p q=>⟨vuj,(n08n_p _).p.map _,by rw [wly];kernel_rfl,vac (ids:=[5000013,5000004]) (by kernel_rfl) (by kernel_rfl) ⟨v1c,⟨v2c,trivial⟩⟩⟩
def G89:Glob:=G88.add 10 wws
theorem G89_ok:GlobOk Tryz.prog G89:=G88_ok.add ⟨Tryz.f10,Tryz.func10,by kernel_rfl,by kernel_rfl⟩ w1n
def wli:Nat→Option LoopSpec
 |_=>none
theorem w1g:vad Tryz.prog 231 wxv:=
 vay G89_ok follows (Tryz.f231.body.getD .skip) Tryz.func231 (by kernel_rfl) fun p q=>⟨wli,(n59n_p _ _).p.map _,by rw [wqn];kernel_rfl,vac (ids:=[]) (by kernel_rfl) (by kernel_rfl) trivial⟩
def G90:Glob:=G89.add 231 wxv
theorem G90_ok:GlobOk Tryz.prog G90:=G89_ok.add ⟨Tryz.f231,Tryz.func231,by kernel_rfl,by kernel_rfl⟩ w1g
def vz4:q4T→List AV:=fun x=>[.lst tRange x.1,.lst tRange x.2.1,.bool x.2.2.1,.i x.2.2.2]
def vx1:q4T→St:=fun x=>[]
def v3h:Nat→Option LoopSpec
 |0=>some (lpS [0,1,4,5] [] [.lst tRange,.lst tRange,.bool,.i] [] vof (fun p q=>(p.1,p.2.1,p.2.2.1,p.2.2.2.1)) (fun k=>(Sum.elim (onE (exZ .ret vz4 vx1) k) (onE (exZ (.exit 0) vz4 vx1) k))))
 |2000006=>some ⟨[0,2,4,6,8,10,12,14,16,18],[],fun _ _ _=>none⟩
 |_=>none
theorem wv5:LpAt G90 ⟨0,27,v3h⟩ Tryz.f168 0:=
 vat rfl (fun x=>(n60n_bp0 x).p) vz4 vx1 (Sum.elim ((exZ .ret vz4 vx1)) ((exZ (.exit 0) vz4 vx1))) (fun _ _=>⟨rfl,rfl⟩) (fun z=>by rcases z with z|z<;>(intro h;cases h)) (fun k z=>by rcases z with z|z<;>rfl) (fun x=>by kernel_rfl)
theorem w19:vad Tryz.prog 168 wxm:=
 vay G90_ok follows (Tryz.f168.body.getD .skip) Tryz.func168 (by kernel_rfl) fun p q=>⟨v3h,(n60n_p _ _).p.map _,by rw [wro];kernel_rfl,vac (ids:=[0]) (by kernel_rfl) (by kernel_rfl) ⟨wv5,trivial⟩⟩
def G91:Glob:=G90.add 168 wxm
theorem G91_ok:GlobOk Tryz.prog G91:=G90_ok.add ⟨Tryz.f168,Tryz.func168,by kernel_rfl,by kernel_rfl⟩ w19
def wks:Nat→Option LoopSpec
 |_=>none
theorem w4a:vad Tryz.prog 232 wxh:=
 vay G91_ok follows (Tryz.f232.body.getD .skip) Tryz.func232 (by kernel_rfl) fun p q=>⟨wks,(n66n_p _ _).p.map _,by rw [wp0];kernel_rfl,vac (ids:=[]) (by kernel_rfl) (by kernel_rfl) trivial⟩
def G92:Glob:=G91.add 232 wxh
theorem G92_ok:GlobOk Tryz.prog G92:=G91_ok.add ⟨Tryz.f232,Tryz.func232,by kernel_rfl,by kernel_rfl⟩ w4a
def v0q:q17T→List AV:=fun x=>[.lst tWrite x.1,.lst tWrite x.2.1,.bool x.2.2.1,.i x.2.2.2]
def vx2:q17T→St:=fun x=>[]
def v4l:Nat→Option LoopSpec
 |0=>some (lpS [0,1,4,5] [] [.lst tWrite,.lst tWrite,.bool,.i] [] vnp (fun p q=>(p.1,p.2.1,p.2.2.1,p.2.2.2.1)) (fun k=>(Sum.elim (onE (exZ .ret v0q vx2) k) (onE (exZ (.exit 0) v0q vx2) k))))
 |2000006=>some ⟨[0,2,4,6,8,10,12,14,16,18],[],fun _ _ _=>none⟩
 |_=>none
theorem wu6:LpAt G92 ⟨0,27,v4l⟩ Tryz.f169 0:=
 vat rfl (fun x=>(n67n_bp0 x).p) v0q vx2 (Sum.elim ((exZ .ret v0q vx2)) ((exZ (.exit 0) v0q vx2))) (fun _ _=>⟨rfl,rfl⟩) (fun z=>by rcases z with z|z<;>(intro h;cases h)) (fun k z=>by rcases z with z|z<;>rfl) (fun x=>by kernel_rfl)
theorem w2c:vad Tryz.prog 169 wx7:=
 vay G92_ok follows (Tryz.f169.body.getD .skip) Tryz.func169 (by kernel_rfl) fun p q=>⟨v4l,(n67n_p _ _).p.map _,by rw [wqe];kernel_rfl,vac (ids:=[0]) (by kernel_rfl) (by kernel_rfl) ⟨wu6,trivial⟩⟩
def G93:Glob:=G92.add 169 wx7
theorem G93_ok:GlobOk Tryz.prog G93:=G92_ok.add ⟨Tryz.f169,Tryz.func169,by kernel_rfl,by kernel_rfl⟩ w2c
def wjb:Nat→Option LoopSpec
 |_=>none
theorem w1x:vad Tryz.prog 78 www:=
 vay G93_ok follows (Tryz.f78.body.getD .skip) Tryz.func78 (by kernel_rfl) fun p q=>⟨wjb,(n62n_p _ _).p.map _,by rw [wnb];kernel_rfl,vac (ids:=[]) (by kernel_rfl) (by kernel_rfl) trivial⟩
def G94:Glob:=G93.add 78 www
theorem G94_ok:GlobOk Tryz.prog G94:=G93_ok.add ⟨Tryz.f78,Tryz.func78,by kernel_rfl,by kernel_rfl⟩ w1x
def wk7:Nat→Option LoopSpec
 |_=>none
theorem w3g:vad Tryz.prog 197 wxt:=
 vay G94_ok follows (Tryz.f197.body.getD .skip) Tryz.func197 (by kernel_rfl) fun p q=>⟨wk7,(n64n_p _ _).p.map _,by rw [wml];kernel_rfl,vac (ids:=[]) (by kernel_rfl) (by kernel_rfl) trivial⟩
def G95:Glob:=G94.add 197 wxt
theorem G95_ok:GlobOk Tryz.prog G95:=G94_ok.add ⟨Tryz.f197,Tryz.func197,by kernel_rfl,by kernel_rfl⟩ w3g
def vx9:q12T→List AV:=fun x=>[.lst tVersion x.1,.lst tVersion x.2.1,.bool x.2.2.1,.i x.2.2.2]
def vyz:q12T→St:=fun x=>[]
def v2s:Nat→Option LoopSpec
 |0=>some (lpS [0,1,4,5] [] [.lst tVersion,.lst tVersion,.bool,.i] [] vo9 (fun p q=>(p.1,p.2.1,p.2.2.1,p.2.2.2.1)) (fun k=>(Sum.elim (onE (exZ .ret vx9 vyz) k) (onE (exZ (.exit 0) vx9 vyz) k))))
 |2000006=>some ⟨[0,2,4,6,8,10,12,14,16,18],[],fun _ _ _=>none⟩
 |_=>none
theorem wug:LpAt G95 ⟨0,27,v2s⟩ Tryz.f105 0:=
 vat rfl (fun x=>(n65n_bp0 x).p) vx9 vyz (Sum.elim ((exZ .ret vx9 vyz)) ((exZ (.exit 0) vx9 vyz))) (fun _ _=>⟨rfl,rfl⟩) (fun z=>by rcases z with z|z<;>(intro h;cases h)) (fun k z=>by rcases z with z|z<;>rfl) (fun x=>by kernel_rfl)
theorem w38:vad Tryz.prog 105 ww4:=
 vay G95_ok follows (Tryz.f105.body.getD .skip) Tryz.func105 (by kernel_rfl) fun p q=>⟨v2s,(n65n_p _ _).p.map _,by rw [wlv];kernel_rfl,vac (ids:=[0]) (by kernel_rfl) (by kernel_rfl) ⟨wug,trivial⟩⟩
def G96:Glob:=G95.add 105 ww4
theorem G96_ok:GlobOk Tryz.prog G96:=G95_ok.add ⟨Tryz.f105,Tryz.func105,by kernel_rfl,by kernel_rfl⟩ w38
def vxu:q7T→List AV:=fun x=>[.lst tTxn x.1,.lst tTxn x.2.1,.bool x.2.2.1,.i x.2.2.2]
def v0h:q7T→St:=fun x=>[]
def v4k:Nat→Option LoopSpec
 |0=>some (lpS [0,1,4,5] [] [.lst tTxn,.lst tTxn,.bool,.i] [] voi (fun p q=>(p.1,p.2.1,p.2.2.1,p.2.2.2.1)) (fun k=>(Sum.elim (onE (exZ .ret vxu v0h) k) (onE (exZ (.exit 0) vxu v0h) k))))
 |2000006=>some ⟨[0,2,4,6,8,10,12,14,16,18],[],fun _ _ _=>none⟩
 |_=>none
theorem wv6:LpAt G96 ⟨0,27,v4k⟩ Tryz.f91 0:=
 vat rfl (fun x=>(n63n_bp0 x).p) vxu v0h (Sum.elim ((exZ .ret vxu v0h)) ((exZ (.exit 0) vxu v0h))) (fun _ _=>⟨rfl,rfl⟩) (fun z=>by rcases z with z|z<;>(intro h;cases h)) (fun k z=>by rcases z with z|z<;>rfl) (fun x=>by kernel_rfl)
theorem w22:vad Tryz.prog 91 wwq:=
 vay G96_ok follows (Tryz.f91.body.getD .skip) Tryz.func91 (by kernel_rfl) fun p q=>⟨v4k,(n63n_p _ _).p.map _,by rw [wpo];kernel_rfl,vac (ids:=[0]) (by kernel_rfl) (by kernel_rfl) ⟨wv6,trivial⟩⟩
def G97:Glob:=G96.add 91 wwq
theorem G97_ok:GlobOk Tryz.prog G97:=G96_ok.add ⟨Tryz.f91,Tryz.func91,by kernel_rfl,by kernel_rfl⟩ w22
def wkq:Nat→Option LoopSpec
 |_=>none
theorem w4c:vad Tryz.prog 32 wyn:=
 vay G97_ok follows (Tryz.f32.body.getD .skip) Tryz.func32 (by kernel_rfl) fun p q=>⟨wkq,(n58n_p _ _).p.map _,by rw [wqk];kernel_rfl,vac (ids:=[]) (by kernel_rfl) (by kernel_rfl) trivial⟩
def G98:Glob:=G97.add 32 wyn
theorem G98_ok:GlobOk Tryz.prog G98:=G97_ok.add ⟨Tryz.f32,Tryz.func32,by kernel_rfl,by kernel_rfl⟩ w4c
def wk8:Nat→Option LoopSpec
 |_=>none
theorem w3w:vad Tryz.prog 11 wwa:=
 vay G98_ok follows (Tryz.f11.body.getD .skip) Tryz.func11 (by kernel_rfl) fun p q=>⟨wk8,(n61n_p _ _).p.map _,by rw [wqo];kernel_rfl,vac (ids:=[]) (by kernel_rfl) (by kernel_rfl) trivial⟩
def G99:Glob:=G98.add 11 wwa
theorem G99_ok:GlobOk Tryz.prog G99:=G98_ok.add ⟨Tryz.f11,Tryz.func11,by kernel_rfl,by kernel_rfl⟩ w3w
def wbn:(Int×ByteArray)→List AV:=fun x=>[.i x.1,.str x.2]
def wdk:(Int×ByteArray)→St:=fun x=>[]
def v29:Nat→Option LoopSpec
 |0=>some (lpS [0,3] [] [.i,.str] [] vsa (fun p q=>(p.1,p.2.1)) (fun k=>(onE (exZ (.exit 0) wbn wdk) k)))
 |_=>none
theorem ws0:LpAt G99 ⟨0,20,v29⟩ Tryz.f94 0:=
 vat rfl (fun x=>(n78n_bp0 x).p) wbn wdk (exZ (.exit 0) wbn wdk) (fun _ _=>⟨rfl,rfl⟩) (fun z=>by(intro h;cases h)) (fun _ _=>rfl) (fun x=>by kernel_rfl)
theorem w17:vad Tryz.prog 94 wv7:=
 vay G99_ok follows (Tryz.f94.body.getD .skip) Tryz.func94 (by kernel_rfl) fun p q=>⟨v29,(n78n_p _).p.map _,by rw [wrd];kernel_rfl,vac (ids:=[0]) (by kernel_rfl) (by kernel_rfl) ⟨ws0,trivial⟩⟩
def G100:Glob:=G99.add 94 wv7
theorem G100_ok:GlobOk Tryz.prog G100:=G99_ok.add ⟨Tryz.f94,Tryz.func94,by kernel_rfl,by kernel_rfl⟩ w17
def wcz:(Int×Int×(List vai))→List AV:=fun x=>[.own 0,.i x.1,.i x.2.1]
def we0:(Int×Int×(List vai))→St:=fun x=>[.arr tRange x.2.2]
def v3z:Nat→Option LoopSpec
 |0=>some (lpS [0,1,5] [] [.own 0,.i,.i] [.arr tRange] vr1 (fun p q=>(p.2.1,p.2.2.1,q.1)) (fun k=>(onE (exZ (.exit 0) wcz we0) k)))
 |_=>none
theorem wu9:LpAt G100 ⟨1,29,v3z⟩ Tryz.f170 0:=
 vat rfl (fun x=>(n76n_bp0 x).p) wcz we0 (exZ (.exit 0) wcz we0) (fun _ _=>⟨rfl,rfl⟩) (fun z=>by(intro h;cases h)) (fun _ _=>rfl) (fun x=>by kernel_rfl)
theorem vuw:vad Tryz.prog 170 vmg:=
 vay G100_ok follows (Tryz.f170.body.getD .skip) Tryz.func170 (by kernel_rfl) fun p q=>⟨v3z,(n76n_p _ _).p.map _,by rw [wf7];kernel_rfl,vac (ids:=[0]) (by kernel_rfl) (by kernel_rfl) ⟨wu9,trivial⟩⟩
def G101:Glob:=G100.add 170 vmg
theorem G101_ok:GlobOk Tryz.prog G101:=G100_ok.add ⟨Tryz.f170,Tryz.func170,by kernel_rfl,by kernel_rfl⟩ vuw
def wci:(Int×Int×(List vag))→List AV:=fun x=>[.own 0,.i x.1,.i x.2.1]
def wer:(Int×Int×(List vag))→St:=fun x=>[.arr tWrite x.2.2]
def v2i:Nat→Option LoopSpec
 |0=>some (lpS [0,1,5] [] [.own 0,.i,.i] [.arr tWrite] vsg (fun p q=>(p.2.1,p.2.2.1,q.1)) (fun k=>(onE (exZ (.exit 0) wci wer) k)))
 |_=>none
theorem wuu:LpAt G101 ⟨1,38,v2i⟩ Tryz.f171 0:=
 vat rfl (fun x=>(n82n_bp0 x).p) wci wer (exZ (.exit 0) wci wer) (fun _ _=>⟨rfl,rfl⟩) (fun z=>by(intro h;cases h)) (fun _ _=>rfl) (fun x=>by kernel_rfl)
theorem vvb:vad Tryz.prog 171 vmd:=
 vay G101_ok follows (Tryz.f171.body.getD .skip) Tryz.func171 (by kernel_rfl) fun p q=>⟨v2i,(n82n_p _ _).p.map _,by rw [wig];kernel_rfl,vac (ids:=[0]) (by kernel_rfl) (by kernel_rfl) ⟨wuu,trivial⟩⟩
def G102:Glob:=G101.add 171 vmd
theorem G102_ok:GlobOk Tryz.prog G102:=G101_ok.add ⟨Tryz.f171,Tryz.func171,by kernel_rfl,by kernel_rfl⟩ vvb
def wjg:Nat→Option LoopSpec
 |_=>none
theorem v1e:vad Tryz.prog 79 vrn:=
 vay G102_ok follows (Tryz.f79.body.getD .skip) Tryz.func79 (by kernel_rfl) fun p q=>⟨wjg,(n80n_p _ _ _ _ _ _ _ _ _).p.map _,by rw [wq6];kernel_rfl,vac (ids:=[]) (by kernel_rfl) (by kernel_rfl) trivial⟩
def G103:Glob:=G102.add 79 vrn
theorem G103_ok:GlobOk Tryz.prog G103:=G102_ok.add ⟨Tryz.f79,Tryz.func79,by kernel_rfl,by kernel_rfl⟩ v1e
def wc4:(Int×Int×(List vaa))→List AV:=fun x=>[.own 0,.i x.1,.i x.2.1]
def wbm:(Int×Int×(List vaa))→St:=fun x=>[.arr tVersion x.2.2]
def v2z:Nat→Option LoopSpec
 |0=>some (lpS [0,1,5] [] [.own 0,.i,.i] [.arr tVersion] vnv (fun p q=>(p.2.1,p.2.2.1,q.1)) (fun k=>(onE (exZ (.exit 0) wc4 wbm) k)))
 |_=>none
theorem wvx:LpAt G103 ⟨1,45,v2z⟩ Tryz.f106 0:=
 vat rfl (fun x=>(n81n_bp0 x).p) wc4 wbm (exZ (.exit 0) wc4 wbm) (fun _ _=>⟨rfl,rfl⟩) (fun z=>by(intro h;cases h)) (fun _ _=>rfl) (fun x=>by kernel_rfl)
theorem vsw:vad Tryz.prog 106 viz:=
 vay G103_ok follows (Tryz.f106.body.getD .skip) Tryz.func106 (by kernel_rfl) fun p q=>⟨v2z,(n81n_p _ _).p.map _,by rw [wof];kernel_rfl,vac (ids:=[0]) (by kernel_rfl) (by kernel_rfl) ⟨wvx,trivial⟩⟩
def G104:Glob:=G103.add 106 viz
theorem G104_ok:GlobOk Tryz.prog G104:=G103_ok.add ⟨Tryz.f106,Tryz.func106,by kernel_rfl,by kernel_rfl⟩ vsw
def vks:(Int×Int×(List dTxn))→List AV:=fun x=>[.own 0,.i x.1,.i x.2.1]
def vkg:(Int×Int×(List dTxn))→St:=fun x=>[.dep tTxn x.2.2 0]
def vk9:(Int×Int×(List dTxn))→List AV:=fun x=>[.own 0,.i x.1,.i x.2.1]
def vky:(Int×Int×(List dTxn))→St:=fun x=>[.dep tTxn x.2.2 0]
def vju:(Int×Int×(List dTxn))→List AV:=fun x=>[.own 0,.i x.1,.i x.2.1]
def vlr:(Int×Int×(List dTxn))→St:=fun x=>[.dep tTxn x.2.2 0]
def vjv:(Int×Int×(List dTxn))→List AV:=fun x=>[.own 0,.i x.1,.i x.2.1]
def vli:(Int×Int×(List dTxn))→St:=fun x=>[.dep tTxn x.2.2 0]
def vlm:(Int×Int×(List dTxn))→List AV:=fun x=>[.own 0,.i x.1,.i x.2.1]
def vj8:(Int×Int×(List dTxn))→St:=fun x=>[.dep tTxn x.2.2 0]
def vka:(Int×Int×(List dTxn))→List AV:=fun x=>[.own 0,.i x.1,.i x.2.1]
def vlv:(Int×Int×(List dTxn))→St:=fun x=>[.dep tTxn x.2.2 0]
def vjw:(Int×Int×(List dTxn))→List AV:=fun x=>[.own 0,.i x.1,.i x.2.1]
def vkp:(Int×Int×(List dTxn))→St:=fun x=>[.dep tTxn x.2.2 0]
def wca:(Int×Int×(List dTxn))→List AV:=fun x=>[.own 0,.i x.1,.i x.2.1]
def wev:(Int×Int×(List dTxn))→St:=fun x=>[.dep tTxn x.2.2 0]
def vd8:Nat→Option LoopSpec
 |5000003=>some (ctS [0,1,5] [] [.own 0,.i,.i] [.dep tTxn 0] vfl (fun p q=>(p.2.1,p.2.2.1,q.1)) (fun k=>(onE (exZ .norm vks vkg) k)))
 |5000017=>some (ctS [0,1,5] [] [.own 0,.i,.i] [.dep tTxn 0] vft (fun p q=>(p.2.1,p.2.2.1,q.1)) (fun k=>(onE (exZ .norm vk9 vky) k)))
 |5000015=>some (ctS [0,1,5] [] [.own 0,.i,.i] [.dep tTxn 0] vfg (fun p q=>(p.2.1,p.2.2.1,q.1)) (fun k=>(onE (exZ .norm vju vlr) k)))
 |5000011=>some (ctS [0,1,5] [] [.own 0,.i,.i] [.dep tTxn 0] vfz (fun p q=>(p.2.1,p.2.2.1,q.1)) (fun k=>(onE (exZ .norm vjv vli) k)))
 |5000009=>some (ctS [0,1,5] [] [.own 0,.i,.i] [.dep tTxn 0] vfv (fun p q=>(p.2.1,p.2.2.1,q.1)) (fun k=>(onE (exZ .norm vlm vj8) k)))
 |5000007=>some (ctS [0,1,5] [] [.own 0,.i,.i] [.dep tTxn 0] vf3 (fun p q=>(p.2.1,p.2.2.1,q.1)) (fun k=>(onE (exZ .norm vka vlv) k)))
 |5000005=>some (ctS [0,1,5] [] [.own 0,.i,.i] [.dep tTxn 0] vf4 (fun p q=>(p.2.1,p.2.2.1,q.1)) (fun k=>(onE (exZ .norm vjw vkp) k)))
 |0=>some (lpS [0,1,5] [] [.own 0,.i,.i] [.dep tTxn 0] voz (fun p q=>(p.2.1,p.2.2.1,q.1)) (fun k=>(onE (exZ (.exit 0) wca wev) k)))
 |_=>none
theorem v1s:CtAt G104 ⟨1,72,vd8⟩ Tryz.f93 5000003:=
 vbu rfl (fun x=>(n79n_jp5000003 x).p) vks vkg (exZ .norm vks vkg) (fun _ _=>⟨rfl,rfl⟩) (fun _ _=>rfl) (fun x=>by kernel_rfl)
theorem v1f:CtAt G104 ⟨1,72,vd8⟩ Tryz.f93 5000017:=
 vbu rfl (fun x=>(n79n_jp5000017 x).p) vk9 vky (exZ .norm vk9 vky) (fun _ _=>⟨rfl,rfl⟩) (fun _ _=>rfl) (fun x=>by kernel_rfl)
theorem v10:CtAt G104 ⟨1,72,vd8⟩ Tryz.f93 5000015:=
 vbu rfl (fun x=>(n79n_jp5000015 x).p) vju vlr (exZ .norm vju vlr) (fun _ _=>⟨rfl,rfl⟩) (fun _ _=>rfl) (fun x=>by kernel_rfl)
theorem v1i:CtAt G104 ⟨1,72,vd8⟩ Tryz.f93 5000011:=
 vbu rfl (fun x=>(n79n_jp5000011 x).p) vjv vli (exZ .norm vjv vli) (fun _ _=>⟨rfl,rfl⟩) (fun _ _=>rfl) (fun x=>by kernel_rfl)
theorem v0z:CtAt G104 ⟨1,72,vd8⟩ Tryz.f93 5000009:=
 vbu rfl (fun x=>(n79n_jp5000009 x).p) vlm vj8 (exZ .norm vlm vj8) (fun _ _=>⟨rfl,rfl⟩) (fun _ _=>rfl) (fun x=>by kernel_rfl)
theorem v1q:CtAt G104 ⟨1,72,vd8⟩ Tryz.f93 5000007:=
 vbu rfl (fun x=>(n79n_jp5000007 x).p) vka vlv (exZ .norm vka vlv) (fun _ _=>⟨rfl,rfl⟩) (fun _ _=>rfl) (fun x=>by kernel_rfl)
theorem v18:CtAt G104 ⟨1,72,vd8⟩ Tryz.f93 5000005:=
 vbu rfl (fun x=>(n79n_jp5000005 x).p) vjw vkp (exZ .norm vjw vkp) (fun _ _=>⟨rfl,rfl⟩) (fun _ _=>rfl) (fun x=>by kernel_rfl)
theorem wt5:LpAt G104 ⟨1,72,vd8⟩ Tryz.f93 0:=
 vat rfl (fun x=>(n79n_bp0 x).p) wca wev (exZ (.exit 0) wca wev) (fun _ _=>⟨rfl,rfl⟩) (fun z=>by(intro h;cases h)) (fun _ _=>rfl) (fun x=>by kernel_rfl)
theorem vzy:vad Tryz.prog 93 vo5:=
 vay G104_ok follows (Tryz.f93.body.getD .skip) Tryz.func93 (by kernel_rfl) fun p q=>⟨vd8,(n79n_p _ _).p.map _,by rw [wnj];kernel_rfl,vac (ids:=[5000003,5000017,5000015,5000011,5000009,5000007,5000005,0]) (by kernel_rfl) (by kernel_rfl) ⟨v1s,⟨v1f,⟨v10,⟨v1i,⟨v0z,⟨v1q,⟨v18,⟨wt5,trivial⟩⟩⟩⟩⟩⟩⟩⟩⟩
def G105:Glob:=G104.add 93 vo5
theorem G105_ok:GlobOk Tryz.prog G105:=G104_ok.add ⟨Tryz.f93,Tryz.func93,by kernel_rfl,by kernel_rfl⟩ vzy
def wjd:Nat→Option LoopSpec
 |_=>none
theorem v0j:vad Tryz.prog 33 vo6:=
 vay G105_ok follows (Tryz.f33.body.getD .skip) Tryz.func33 (by kernel_rfl) fun p q=>⟨wjd,(n75n_p _ _ _ _ _ _).p.map _,by rw [wpf];kernel_rfl,vac (ids:=[]) (by kernel_rfl) (by kernel_rfl) trivial⟩
def G106:Glob:=G105.add 33 vo6
theorem G106_ok:GlobOk Tryz.prog G106:=G105_ok.add ⟨Tryz.f33,Tryz.func33,by kernel_rfl,by kernel_rfl⟩ v0j
def wjq:Nat→Option LoopSpec
 |_=>none
theorem vui:vad Tryz.prog 12 vmf:=
 vay G106_ok follows (Tryz.f12.body.getD .skip) Tryz.func12 (by kernel_rfl) fun p q=>⟨wjq,(n77n_p _ _ _ _ _ _ _ _ _ _ _ _ _ _ _ _ _).p.map _,by rw [wnf];kernel_rfl,vac (ids:=[]) (by kernel_rfl) (by kernel_rfl) trivial⟩
def G107:Glob:=G106.add 12 vmf
theorem G107_ok:GlobOk Tryz.prog G107:=G106_ok.add ⟨Tryz.f12,Tryz.func12,by kernel_rfl,by kernel_rfl⟩ vui
def vz0:q6T→List AV:=fun x=>[.lst tRange x.1,.i x.2.1,.i x.2.2.1,.i x.2.2.2]
def v0b:q6T→St:=fun x=>[]
def v2o:Nat→Option LoopSpec
 |0=>some (lpS [0,1,4,5] [] [.lst tRange,.i,.i,.i] [] vpk (fun p q=>(p.1,p.2.1,p.2.2.1,p.2.2.2.1)) (fun k=>(Sum.elim (onE (exZ .ret vz0 v0b) k) (onE (exZ (.exit 0) vz0 v0b) k))))
 |2000004=>some ⟨[0,2,4,6,8,10,13,14],[],fun _ _ _=>none⟩
 |2000007=>some ⟨[0,2,4,6,8,10,13,14],[],fun _ _ _=>none⟩
 |_=>none
theorem wvf:LpAt G107 ⟨0,33,v2o⟩ Tryz.f172 0:=
 vat rfl (fun x=>(n69n_bp0 x).p) vz0 v0b (Sum.elim ((exZ .ret vz0 v0b)) ((exZ (.exit 0) vz0 v0b))) (fun _ _=>⟨rfl,rfl⟩) (fun z=>by rcases z with z|z<;>(intro h;cases h)) (fun k z=>by rcases z with z|z<;>rfl) (fun x=>by kernel_rfl)
theorem w37:vad Tryz.prog 172 wx1:=
 vay G107_ok follows (Tryz.f172.body.getD .skip) Tryz.func172 (by kernel_rfl) fun p q=>⟨v2o,(n69n_p _ _).p.map _,by rw [wpy];kernel_rfl,vac (ids:=[0]) (by kernel_rfl) (by kernel_rfl) ⟨wvf,trivial⟩⟩
def G108:Glob:=G107.add 172 wx1
theorem G108_ok:GlobOk Tryz.prog G108:=G107_ok.add ⟨Tryz.f172,Tryz.func172,by kernel_rfl,by kernel_rfl⟩ w37
def vz6:q20T→List AV:=fun x=>[.lst tWrite x.1,.i x.2.1,.i x.2.2.1,.i x.2.2.2]
def vxh:q20T→St:=fun x=>[]
def v3q:Nat→Option LoopSpec
 |0=>some (lpS [0,1,4,5] [] [.lst tWrite,.i,.i,.i] [] voc (fun p q=>(p.1,p.2.1,p.2.2.1,p.2.2.2.1)) (fun k=>(Sum.elim (onE (exZ .ret vz6 vxh) k) (onE (exZ (.exit 0) vz6 vxh) k))))
 |2000004=>some ⟨[0,2,4,6,8,10,13,14],[],fun _ _ _=>none⟩
 |2000007=>some ⟨[0,2,4,6,8,10,13,14],[],fun _ _ _=>none⟩
 |_=>none
theorem wvg:LpAt G108 ⟨0,44,v3q⟩ Tryz.f173 0:=
 vat rfl (fun x=>(n74n_bp0 x).p) vz6 vxh (Sum.elim ((exZ .ret vz6 vxh)) ((exZ (.exit 0) vz6 vxh))) (fun _ _=>⟨rfl,rfl⟩) (fun z=>by rcases z with z|z<;>(intro h;cases h)) (fun k z=>by rcases z with z|z<;>rfl) (fun x=>by kernel_rfl)
theorem w3c:vad Tryz.prog 173 wwl:=
 vay G108_ok follows (Tryz.f173.body.getD .skip) Tryz.func173 (by kernel_rfl) fun p q=>⟨v3q,(n74n_p _ _).p.map _,by rw [wmc];kernel_rfl,vac (ids:=[0]) (by kernel_rfl) (by kernel_rfl) ⟨wvg,trivial⟩⟩
def G109:Glob:=G108.add 173 wwl
theorem G109_ok:GlobOk Tryz.prog G109:=G108_ok.add ⟨Tryz.f173,Tryz.func173,by kernel_rfl,by kernel_rfl⟩ w3c
end
end Go.VE
