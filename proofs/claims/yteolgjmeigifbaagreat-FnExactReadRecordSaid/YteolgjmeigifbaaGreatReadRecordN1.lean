/- Native programs of the functions, written by gen.py. -/
import Derived.Test.YteolgjmeigifbaaGreatT0
namespace Go.VE
noncomputable section
set_option linter.unusedVariables false
set_option linter.unusedSimpArgs false
set_option maxRecDepth 100000
abbrev q0T:Type:=((List (List dTxn))×Int×(List (List dTxn))×Int×Int)
abbrev q1T:Type:=((List (List dTxn))×Int×Int×(List dTxn))
abbrev q2T:Type:=((List ByteArray)×Int×Int×(List Int))
abbrev q3T:Type:=((List Int)×Int×Int×(List Int))
abbrev q4T:Type:=((List vai)×(List vai)×Bool×Int)
abbrev q5T:Type:=((List vai)×Int×Int×Int×Int×Int×Int×(List vai)×(List vag)×Bool×ByteArray×(List Int))
abbrev q6T:Type:=((List vai)×Int×Int×Int)
abbrev q7T:Type:=((List dTxn)×(List dTxn)×Bool×Int)
abbrev q8T:Type:=((List dTxn)×ByteArray×Int)
abbrev q9T:Type:=((List dTxn)×Int×Bool×(List dTxn)×Int×Int)
abbrev q10T:Type:=((List dTxn)×Int×Int×Int×Int×Int×Int×Int×(List vai)×(List vag)×Bool×ByteArray)
abbrev q11T:Type:=((List dTxn)×Int×Int×Int)
abbrev q12T:Type:=((List vaa)×(List vaa)×Bool×Int)
abbrev q13T:Type:=((List vaa)×Bool×(List vaa)×Int×Int)
abbrev q14T:Type:=((List vaa)×Bool×Int×ByteArray×ByteArray×Bool×Int)
abbrev q15T:Type:=((List vaa)×Int×Int×(List vaa)×(List dTxn)×(List dTxn)×Int×Int×(List Int))
abbrev q16T:Type:=((List vaa)×Int×Int×Int)
abbrev q17T:Type:=((List vag)×(List vag)×Bool×Int)
abbrev q18T:Type:=((List vag)×Bool×(List vag)×Int×Int)
abbrev q19T:Type:=((List vag)×Int×Int×Int×Int×Int×Int×(List vai)×(List vag)×Bool×ByteArray×(List Int))
abbrev q20T:Type:=((List vag)×Int×Int×Int)
abbrev q21T:Type:=(Bool×(List vai)×Int×Int×Int×Int×Int×Int×(List vai)×(List vag)×Bool×ByteArray)
abbrev q22T:Type:=(Bool×(List dTxn)×Int×Int×(List vaa)×(List dTxn)×(List dTxn)×Int×Int)
abbrev q23T:Type:=(Bool×(List vaa)×(List dTxn)×(List dTxn)×Int×Int)
abbrev q24T:Type:=(Bool×(List vaa)×Int×Int×(List vaa)×(List dTxn)×(List dTxn)×Int×Int)
abbrev q25T:Type:=(Bool×Bool×Bool×Bool×Int×Int×Int×Int×Int×(List vai)×(List vag)×Bool×ByteArray×ByteArray×Bool×(List vaa)×(List dTxn)×(List dTxn)×Int×Int)
abbrev q26T:Type:=(Bool×Bool×Int×Int×Int×Int×Int×(List vai)×(List vag)×Bool×ByteArray×ByteArray×Bool×(List vaa)×(List dTxn)×(List dTxn)×Int×Int)
abbrev q27T:Type:=(Bool×ByteArray×Int×Bool)
abbrev q28T:Type:=(Bool×Int×(List vaa)×(List dTxn)×(List dTxn)×Int×Int×(List Int))
abbrev q29T:Type:=(Bool×Int×(List vaa)×(List dTxn)×(List dTxn)×Int×Int)
abbrev q30T:Type:=(Bool×Int×Int×(List vaa)×(List dTxn)×(List dTxn)×Int×Int×(List Int))
abbrev q31T:Type:=(Bool×Int×Int×Int×Int×(List vai)×(List vag)×Bool×ByteArray)
abbrev q32T:Type:=(Bool×Int×Int×Int×Int×Int×(List vai)×(List vag)×Bool×ByteArray×ByteArray×Bool×(List vaa)×(List dTxn)×(List dTxn)×Int×Int)
abbrev q33T:Type:=(Bool×Int×Int×Int×Int×Int×(List vai)×(List vag)×Bool×ByteArray)
abbrev q34T:Type:=(Bool×Int×Int×Int×Int×Int×Bool×ByteArray×ByteArray×Bool×Int×Int×(List vai)×(List vag)×(List vaa)×(List dTxn)×(List dTxn))
abbrev q35T:Type:=(Bool×Int×Int×Int×Int×Int×Int×Bool×ByteArray×ByteArray×Bool×Int×Int×(List vai)×(List vag)×(List vaa)×(List dTxn)×(List dTxn))
abbrev q36T:Type:=(ByteArray×Bool×(List Int))
abbrev q37T:Type:=(ByteArray×Bool×Bool×Int×Int×Int×Int×Int×Bool×ByteArray×ByteArray×Bool×Int×Int×Int×Int×Int×Int×Int×Bool×ByteArray×ByteArray×Bool×Int×Int×(List vai)×(List vag)×(List vaa)×(List dTxn)×(List dTxn)×(List vai)×(List vag)×(List vaa)×(List dTxn)×(List dTxn))
abbrev q38T:Type:=(ByteArray×Bool×ByteArray×Int×Int×Int×Int×Int×Bool×ByteArray×ByteArray×Bool×Int×Int×(List vai)×(List vag)×(List vaa)×(List dTxn)×(List dTxn))
abbrev q39T:Type:=(ByteArray×Bool×Int×Int×Int×Int×Int×Bool×ByteArray×ByteArray×Bool×Int×Int×(List vai)×(List vag)×(List vaa)×(List dTxn)×(List dTxn))
abbrev q40T:Type:=(ByteArray×Bool×Int×Int×Int×Int×Int×Bool×ByteArray×ByteArray×Bool×Int×Int×Int×Int×Int×Int×Int×Bool×ByteArray×ByteArray×Bool×Int×Int×(List vai)×(List vag)×(List vaa)×(List dTxn)×(List dTxn)×(List vai)×(List vag)×(List vaa)×(List dTxn)×(List dTxn))
abbrev q41T:Type:=(ByteArray×Bool×Int×Int×Int×Int×Int×Bool×ByteArray×ByteArray×Bool×Int×Int×Int×Int×Int×Int×Int×Bool×ByteArray×ByteArray×Bool×Int×Int×(List vai)×(List vag)×(List vaa)×(List dTxn)×(List dTxn))
abbrev q42T:Type:=(ByteArray×Bool×Int×Int×Int×Int×Int×Bool×ByteArray×ByteArray×Bool×Int×Int×Int×Int×Int×Int×Int×Bool×ByteArray×ByteArray×Bool×Int×Int×ByteArray×Int×Bool×(List vai)×(List vag)×(List vaa)×(List dTxn)×(List dTxn)×(List vai)×(List vag)×(List vaa)×(List dTxn)×(List dTxn))
abbrev q43T:Type:=(ByteArray×Bool×Int×Int×Int×Int×Int×Bool×ByteArray×ByteArray×Bool×Int×Int×Int×Int×Int×Int×Int×Bool×ByteArray×ByteArray×Bool×Int×Int×ByteArray×Int×Bool×(List vai)×(List vag)×(List vaa)×(List dTxn)×(List dTxn))
abbrev q44T:Type:=(ByteArray×ByteArray×Int×Bool)
abbrev q45T:Type:=(ByteArray×Int×(List vaa)×(List dTxn)×(List dTxn)×Int×Int)
abbrev q46T:Type:=(ByteArray×Int×Bool×(List dTxn))
abbrev q47T:Type:=(ByteArray×Int×Bool×Int×Int×(List vaa)×(List dTxn)×(List dTxn))
abbrev q48T:Type:=(ByteArray×Int×Bool×Int×Int×(List vaa)×(List dTxn))
abbrev q49T:Type:=(ByteArray×Int×Bool×Int×Int×(List vaa))
abbrev q50T:Type:=(ByteArray×Int×Bool×Int×Int×Int×Int×Bool×ByteArray×(List vai)×(List vag))
abbrev q51T:Type:=(ByteArray×Int×Bool×Int×Int×Int×Int×Bool×ByteArray×(List vai))
abbrev q52T:Type:=(ByteArray×Int×Int×Int×Bool×Int×Int×Int)
abbrev q53T:Type:=(ByteArray×Int×Int×Int×Bool×Int×Int)
abbrev q54T:Type:=(ByteArray×Int×Int×Int×Int×Int×(List vai)×(List vag)×Bool×ByteArray)
abbrev q55T:Type:=(Int×(List vai)×(List vag)×(List vaa)×(List dTxn)×(List dTxn))
abbrev q56T:Type:=(Int×(List vai)×(List vag))
abbrev q57T:Type:=(Int×(List vaa)×(List dTxn)×(List dTxn))
abbrev q58T:Type:=(Int×Bool×Int×Int×ByteArray×Int×Bool×Int×Int×(List vaa)×(List dTxn)×(List dTxn))
abbrev q59T:Type:=(Int×Bool×Int×Int×Int×Int×Bool×ByteArray×ByteArray×Int×Bool×Int×Int×Int×Int×Bool×ByteArray×(List vai)×(List vag))
abbrev q60T:Type:=(Int×Int×(List (List dTxn))×(List Int))
abbrev q61T:Type:=(Int×Int×(List dTxn)×Int×Int×(List (List dTxn))×(List Int))
abbrev q62T:Type:=(Int×Int×(List vaa)×(List dTxn)×ByteArray×Int×Bool×(List dTxn))
abbrev q63T:Type:=(Int×Int×(List vaa)×ByteArray×Int×Bool×(List dTxn))
abbrev q64T:Type:=(Int×Int×ByteArray×Int×Bool×(List vaa)×(List dTxn)×(List dTxn))
abbrev q65T:Type:=(Int×Int×ByteArray×Int×Bool×(List vaa))
abbrev q66T:Type:=(Int×Int×ByteArray×Int×Bool×Int×Int×(List vaa)×(List dTxn)×(List dTxn)×(List vaa)×(List dTxn)×(List dTxn))
abbrev q67T:Type:=(Int×Int×ByteArray×Int×Bool×Int×Int×(List vaa)×(List dTxn)×(List dTxn))
abbrev q68T:Type:=(Int×Int×ByteArray×Int×Bool×Int×Int×(List vaa)×(List dTxn))
abbrev q69T:Type:=(Int×Int×ByteArray×Int×Bool×Int×Int×(List vaa))
abbrev q70T:Type:=(Int×Int×ByteArray×Int×Bool×Int×Int×Int×Int×Bool×ByteArray×(List vai)×(List vag))
abbrev q71T:Type:=(Int×Int×ByteArray×Int×Bool×Int×Int×Int×Int×Bool×ByteArray×(List vai))
abbrev q72T:Type:=(Int×Int×Int×Bool×(List vaa)×(List dTxn)×(List dTxn))
abbrev q73T:Type:=(Int×Int×Int×ByteArray×Int×Bool×(List dTxn)×(List dTxn))
abbrev q74T:Type:=(Int×Int×Int×ByteArray×Int×Bool×(List dTxn))
abbrev q75T:Type:=(Int×Int×Int×Int×Bool×ByteArray×ByteArray×Int×Bool×(List vai)×(List vag))
abbrev q76T:Type:=(Int×Int×Int×Int×Bool×ByteArray×ByteArray×Int×Bool×(List vai))
abbrev q77T:Type:=(Int×Int×Int×Int×Bool×ByteArray×ByteArray×Int×Bool×Int×Int×Int×Int×Bool×ByteArray×(List vai)×(List vag)×(List vai)×(List vag))
abbrev q78T:Type:=(Int×Int×Int×Int×Bool×ByteArray×Int×Bool×(List vai)×(List vag))
abbrev q79T:Type:=(Int×Int×Int×Int×ByteArray×Int×Bool×Int×Int×(List vaa))
abbrev q80T:Type:=(Int×Int×Int×Int×Int×(List vai)×(List vag)×Bool×ByteArray)
abbrev q81T:Type:=(Int×Int×Int×Int×Int×Bool×ByteArray×ByteArray×Bool×Int×Int×Bool×(List vai)×(List vag)×(List vaa)×(List dTxn)×(List dTxn))
abbrev q82T:Type:=(Int×Int×Int×Int×Int×Int×Bool×ByteArray×ByteArray×Int×Bool×Int×Int×Int×Int×Bool×ByteArray×(List vai)×(List vag))
abbrev q83T:Type:=(Int×Int×Int×Int×Int×Int×Bool×ByteArray×ByteArray×Int×Bool×Int×Int×Int×Int×Bool×ByteArray×(List vai))
def vmr (x:(Int×ByteArray×Int×Int))(k:(Int×ByteArray×Int×Int)⊕(Int×ByteArray×Int×Int)→Option Res):Option Res:=
 bif (decide (x.2.2.2<8))then
 bif ((x.1.tmod (2:Int))==(1:Int))then
 k (.inl ((IntKind.wrap .u32 (BitVec.ofInt (IntKind.bits .u32) (IntKind.wrap .u32 (x.1.tdiv (2:Int))) ^^^ BitVec.ofInt (IntKind.bits .u32) (3558460437:Int)).toNat),x.2.1,x.2.2.1,(IntKind.wrap .i64 (x.2.2.2+1))))
 else
 k (.inl ((IntKind.wrap .u32 (x.1.tdiv (2:Int))),x.2.1,x.2.2.1,(IntKind.wrap .i64 (x.2.2.2+1))))
 else
 k (.inr (x.1,x.2.1,x.2.2.1,x.2.2.2))
instance n99n_bp2 (x:(Int×ByteArray×Int×Int)):ParC (vmr x):=by unfold vmr;(try dsimp only);infer_instance
def vms (x:(Int×ByteArray×Int))(k:(Int×ByteArray×Int)⊕(Int×ByteArray×Int)→Option Res):Option Res:=
 bif (decide (x.2.2<(x.2.1.size:Int)))then
 if 0≤x.2.2∧x.2.2<(x.2.1.size:Int)then
 vae vmr Fuel ((IntKind.wrap .u32 (BitVec.ofInt (IntKind.bits .u32) x.1 ^^^ BitVec.ofInt (IntKind.bits .u32) (IntKind.wrap .u32 (bt x.2.1 x.2.2))).toNat),x.2.1,x.2.2,0) (fun z2=>
 k (.inl (z2.1,z2.2.1,(IntKind.wrap .i64 (z2.2.2.1+1)))))
 else none
 else
 k (.inr (x.1,x.2.1,x.2.2))
instance n99n_bp0 (x:(Int×ByteArray×Int)):ParC (vms x):=by unfold vms;(try dsimp only);infer_instance
def v8t (a0:Int)(a1:ByteArray)(k:Int→Option Res):Option Res:=
 vae vms Fuel (a0,a1,0) (fun z1=>
 k z1.1)
def v3d:=shut v8t
theorem whp:v3d=v8t:=vaj _
instance n99n_p (a0:Int)(a1:ByteArray):ParC (v3d a0 a1):=by rw [whp];unfold v8t;(try dsimp only);infer_instance
def v51 (a0:ByteArray)(k:Int→Option Res):Option Res:=
 v3d (4294967295:Int) a0 (fun y1=>
 k y1)
def vuy:=shut v51
theorem wbx:vuy=v51:=vaj _
instance n100n_p (a0:ByteArray):ParC (vuy a0):=by rw [wbx];unfold v51;(try dsimp only);infer_instance
def wbl (a0:Int)(k:ByteArray→Option Res):Option Res:=
 k (van [(IntKind.wrap .u8 (a0.fdiv (2^(min (24:Int).toNat (IntKind.bits .u32))))),(IntKind.wrap .u8 (a0.fdiv (2^(min (16:Int).toNat (IntKind.bits .u32))))),(IntKind.wrap .u8 (a0.fdiv (2^(min (8:Int).toNat (IntKind.bits .u32))))),(IntKind.wrap .u8 a0)])
def vrz:=shut wbl
theorem v69:vrz=wbl:=vaj _
instance n109n_p (a0:Int):ParC (vrz a0):=by rw [v69];unfold wbl;(try dsimp only);infer_instance
def v77 (a0:ByteArray)(k:(ByteArray×Bool)→Option Res):Option Res:=
 bif (decide ((IntKind.wrap .i64 ((a0.size:Int)-4))<(0:Int)))then
 k ((⟨#[]⟩:ByteArray),false)
 else
 bif (decide ((IntKind.wrap .i64 ((a0.size:Int)-4))>(20000:Int)))then
 k ((⟨#[]⟩:ByteArray),false)
 else
 if 0≤(IntKind.wrap .i64 ((a0.size:Int)-4))∧(IntKind.wrap .i64 ((a0.size:Int)-4))≤(a0.size:Int)∧(a0.size:Int)≤(a0.size:Int)then
 if 0≤(0:Int)∧(0:Int)≤(IntKind.wrap .i64 ((a0.size:Int)-4))∧(IntKind.wrap .i64 ((a0.size:Int)-4))≤(a0.size:Int)then
 vuy (a0.extract (0:Int).toNat (IntKind.wrap .i64 ((a0.size:Int)-4)).toNat) (fun y1=>
 vrz y1 (fun y2=>
 bif (!(vap (a0.extract (IntKind.wrap .i64 ((a0.size:Int)-4)).toNat (a0.size:Int).toNat) y2))then
 k ((⟨#[]⟩:ByteArray),false)
 else
 if 0≤(0:Int)∧(0:Int)≤(IntKind.wrap .i64 ((a0.size:Int)-4))∧(IntKind.wrap .i64 ((a0.size:Int)-4))≤(a0.size:Int)then
 k ((a0.extract (0:Int).toNat (IntKind.wrap .i64 ((a0.size:Int)-4)).toNat),true)
 else none))
 else none
 else none
def vxl:=shut v77
theorem wct:vxl=v77:=vaj _
instance n103n_p (a0:ByteArray):ParC (vxl a0):=by rw [wct];unfold v77;(try dsimp only);infer_instance
def v7a (a0:Int)(a1:Int)(a2:Int)(k:Bool→Option Res):Option Res:=
 bif (decide (a0≥a1))then
 k (decide (a0≤a2))
 else
 k false
def vci:=shut v7a
theorem web:vci=v7a:=vaj _
instance n107n_p (a0:Int)(a1:Int)(a2:Int):ParC (vci a0 a1 a2):=by rw [web];unfold v7a;(try dsimp only);infer_instance
def vgp (x:(Int×(List Int)))(k:(Int×(List Int))⊕(Int×(List Int))→Option Res):Option Res:=
 bif (decide (x.1>127))then
 if x.2.length+[(IntKind.wrap .u8 (IntKind.wrap .i64 ((x.1.tmod (128:Int))+(128:Int))))].length≤VE.maxLen then
 k (.inl ((IntKind.wrap .i64 (x.1.tdiv (128:Int))),(x.2++[(IntKind.wrap .u8 (IntKind.wrap .i64 ((x.1.tmod (128:Int))+(128:Int))))])))
 else none
 else
 k (.inr (x.1,x.2))
instance n108n_bp0 (x:(Int×(List Int))):ParC (vgp x):=by unfold vgp;(try dsimp only);infer_instance
def vzf (a0:Int)(k:ByteArray→Option Res):Option Res:=
 vae vgp Fuel (a0,([]:List Int)) (fun z1=>
 if z1.2.length+[(IntKind.wrap .u8 z1.1)].length≤VE.maxLen then
 k (van (z1.2++[(IntKind.wrap .u8 z1.1)]))
 else none)
def vb2:=shut vzf
theorem v8b:vb2=vzf:=vaj _
instance n108n_p (a0:Int):ParC (vb2 a0):=by rw [v8b];unfold vzf;(try dsimp only);infer_instance
def vfm (x:q52T)(k:(q52T⊕q52T)→Option Res):Option Res:=
 let t0:=(IntKind.wrap .i64 (x.2.2.2.2.2.1+(IntKind.wrap .i64 (((IntKind.wrap .i64 (bt x.1 x.2.2.2.2.2.2.2)).tmod (128:Int))*x.2.2.2.2.2.2.1))))
 let t1:=(IntKind.wrap .i64 (x.2.2.2.2.2.2.2+(1:Int)))
 if 0≤x.2.2.2.2.2.2.2∧x.2.2.2.2.2.2.2<(x.1.size:Int)then
 if 0≤x.2.2.2.2.2.2.2∧x.2.2.2.2.2.2.2<(x.1.size:Int)then
 bif (decide ((bt x.1 x.2.2.2.2.2.2.2)<(128:Int)))then
 bif (decide (t0>1000000000))then
 k (.inl (x.1,x.2.1,0,0,false,t0,(IntKind.wrap .i64 (x.2.2.2.2.2.2.1*(128:Int))),x.2.2.2.2.2.2.2))
 else
 if 0≤x.2.1∧x.2.1≤t1∧t1≤(x.1.size:Int)then
 vb2 t0 (fun y6=>
 bif (!(vap y6 (x.1.extract x.2.1.toNat t1.toNat)))then
 k (.inl (x.1,x.2.1,0,0,false,t0,(IntKind.wrap .i64 (x.2.2.2.2.2.2.1*(128:Int))),x.2.2.2.2.2.2.2))
 else
 k (.inl (x.1,x.2.1,t0,t1,true,t0,(IntKind.wrap .i64 (x.2.2.2.2.2.2.1*(128:Int))),x.2.2.2.2.2.2.2)))
 else none
 else
 k (.inr (x.1,x.2.1,x.2.2.1,x.2.2.2.1,x.2.2.2.2.1,t0,(IntKind.wrap .i64 (x.2.2.2.2.2.2.1*(128:Int))),t1))
 else none
 else none
instance n95n_jp6000001 (x:q52T):ParC (vfm x):=by unfold vfm;(try dsimp only);infer_instance
def vn1 (x:q52T)(k:q52T⊕(q52T⊕q52T)→Option Res):Option Res:=
 bif (decide (x.2.2.2.2.2.2.2<(x.1.size:Int)))then
 bif (decide (x.2.2.2.2.2.2.2<(IntKind.wrap .i64 (x.2.1+5))))then
 vfm (x.1,x.2.1,x.2.2.1,x.2.2.2.1,x.2.2.2.2.1,x.2.2.2.2.2.1,x.2.2.2.2.2.2.1,x.2.2.2.2.2.2.2) (Sum.elim (fun z4=>
 k (.inr (.inr (z4.1,z4.2.1,z4.2.2.1,z4.2.2.2.1,z4.2.2.2.2.1,z4.2.2.2.2.2.1,z4.2.2.2.2.2.2.1,z4.2.2.2.2.2.2.2)))) (fun z5=>
 k (.inl (z5.1,z5.2.1,z5.2.2.1,z5.2.2.2.1,z5.2.2.2.2.1,z5.2.2.2.2.2.1,z5.2.2.2.2.2.2.1,z5.2.2.2.2.2.2.2))))
 else
 k (.inr (.inl (x.1,x.2.1,x.2.2.1,x.2.2.2.1,x.2.2.2.2.1,x.2.2.2.2.2.1,x.2.2.2.2.2.2.1,x.2.2.2.2.2.2.2)))
 else
 k (.inr (.inl (x.1,x.2.1,x.2.2.1,x.2.2.2.1,x.2.2.2.2.1,x.2.2.2.2.2.1,x.2.2.2.2.2.2.1,x.2.2.2.2.2.2.2)))
instance n95n_bp0 (x:q52T):ParC (vn1 x):=by unfold vn1;(try dsimp only);infer_instance
def wfz (a0:ByteArray)(a1:Int)(k:(Int×Int×Bool)→Option Res):Option Res:=
 vci a1 (0:Int) (a0.size:Int) (fun y1=>
 bif (!y1)then
 k (0,0,false)
 else
 vae vn1 Fuel (a0,a1,0,0,false,0,1,a1) (Sum.elim (fun _=>
 k (0,0,false)) (fun z3=>
 k (z3.2.2.1,z3.2.2.2.1,z3.2.2.2.2.1))))
def v3f:=shut wfz
theorem wnd:v3f=wfz:=vaj _
instance n95n_p (a0:ByteArray)(a1:Int):ParC (v3f a0 a1):=by rw [wnd];unfold wfz;(try dsimp only);infer_instance
def wha (a0:ByteArray)(a1:Int)(k:(ByteArray×Int×Bool)→Option Res):Option Res:=
 v3f a0 a1 (fun y1=>
 bif (!y1.2.2)then
 k ((⟨#[]⟩:ByteArray),0,false)
 else
 bif (decide (y1.1>20000))then
 k ((⟨#[]⟩:ByteArray),0,false)
 else
 bif (decide (y1.1>(IntKind.wrap .i64 ((a0.size:Int)-y1.2.1))))then
 k ((⟨#[]⟩:ByteArray),0,false)
 else
 if 0≤y1.2.1∧y1.2.1≤(IntKind.wrap .i64 (y1.2.1+y1.1))∧(IntKind.wrap .i64 (y1.2.1+y1.1))≤(a0.size:Int)then
 k ((a0.extract y1.2.1.toNat (IntKind.wrap .i64 (y1.2.1+y1.1)).toNat),(IntKind.wrap .i64 (y1.2.1+y1.1)),true)
 else none)
def waz:=shut wha
theorem wop:waz=wha:=vaj _
instance n93n_p (a0:ByteArray)(a1:Int):ParC (waz a0 a1):=by rw [wop];unfold wha;(try dsimp only);infer_instance
def v73 (a0:ByteArray)(a1:Int)(a2:Bool)(k:q44T→Option Res):Option Res:=
 waz a0 a1 (fun y1=>
 bif a2 then
 k ((⟨#[]⟩:ByteArray),a0,a1,true)
 else
 bif (!y1.2.2)then
 k ((⟨#[]⟩:ByteArray),a0,a1,true)
 else
 k (y1.1,a0,y1.2.1,a2))
def vg7:=shut v73
theorem wd9:vg7=v73:=vaj _
instance n112n_p (a0:ByteArray)(a1:Int)(a2:Bool):ParC (vg7 a0 a1 a2):=by rw [wd9];unfold v73;(try dsimp only);infer_instance
def vet (x:q27T)(k:q27T→Option Res):Option Res:=
 if 0≤(IntKind.wrap .i64 ((IntKind.wrap .i64 (x.2.2.1+1))-1))∧(IntKind.wrap .i64 ((IntKind.wrap .i64 (x.2.2.1+1))-1))<(x.2.1.size:Int)then
 k (((bt x.2.1 (IntKind.wrap .i64 ((IntKind.wrap .i64 (x.2.2.1+1))-1)))==(1:Int)),x.2.1,(IntKind.wrap .i64 (x.2.2.1+1)),x.2.2.2)
 else none
instance n111n_jp5000004 (x:q27T):ParC (vet x):=by unfold vet;(try dsimp only);infer_instance
def v70 (a0:ByteArray)(a1:Int)(a2:Bool)(k:q27T→Option Res):Option Res:=
 bif a2 then
 k (false,a0,a1,true)
 else
 bif (decide (a1≥(a0.size:Int)))then
 k (false,a0,a1,true)
 else
 if 0≤a1∧a1<(a0.size:Int)then
 bif (decide ((bt a0 a1)>(1:Int)))then
 k (false,a0,a1,true)
 else
 vet (false,a0,a1,a2) (fun z1=>
 k (z1.1,z1.2.1,z1.2.2.1,z1.2.2.2))
 else none
def vop:=shut v70
theorem wcw:vop=v70:=vaj _
instance n111n_p (a0:ByteArray)(a1:Int)(a2:Bool):ParC (vop a0 a1 a2):=by rw [wcw];unfold v70;(try dsimp only);infer_instance
def v74 (a0:ByteArray)(a1:Int)(a2:Bool)(k:(Int×ByteArray×Int×Bool)→Option Res):Option Res:=
 v3f a0 a1 (fun y1=>
 bif a2 then
 k (0,a0,a1,true)
 else
 bif (!y1.2.2)then
 k (0,a0,a1,true)
 else
 k (y1.1,a0,y1.2.1,a2))
def ve0:=shut v74
theorem weo:ve0=v74:=vaj _
instance n114n_p (a0:ByteArray)(a1:Int)(a2:Bool):ParC (ve0 a0 a1 a2):=by rw [weo];unfold v74;(try dsimp only);infer_instance
def vnu (x:(ByteArray×Bool×Int))(k:(ByteArray×Bool×Int)⊕((ByteArray×Bool×Int)⊕(ByteArray×Bool×Int))→Option Res):Option Res:=
 bif (decide (x.2.2<(x.1.size:Int)))then
 if 0≤x.2.2∧x.2.2<(x.1.size:Int)then
 bif (decide ((bt x.1 x.2.2)<(97:Int)))then
 k (.inr (.inl (x.1,false,x.2.2)))
 else
 if 0≤x.2.2∧x.2.2<(x.1.size:Int)then
 bif (decide ((bt x.1 x.2.2)>(122:Int)))then
 k (.inr (.inl (x.1,false,x.2.2)))
 else
 k (.inl (x.1,x.2.1,(IntKind.wrap .i64 (x.2.2+1))))
 else none
 else none
 else
 k (.inr (.inr (x.1,x.2.1,x.2.2)))
instance n89n_bp0 (x:(ByteArray×Bool×Int)):ParC (vnu x):=by unfold vnu;(try dsimp only);infer_instance
def wij (a0:ByteArray)(k:Bool→Option Res):Option Res:=
 vae vnu Fuel (a0,false,0) (Sum.elim (fun z1=>
 k z1.2.1) (fun z2=>
 vci (z2.1.size:Int) (1:Int) (3:Int) (fun y3=>
 k y3)))
def vjb:=shut wij
theorem woy:vjb=wij:=vaj _
instance n89n_p (a0:ByteArray):ParC (vjb a0):=by rw [woy];unfold wij;(try dsimp only);infer_instance
def v65 (a0:vag)(k:Bool→Option Res):Option Res:=
 vjb a0.1 (fun y1=>
 bif y1 then
 bif (decide ((a0.2.1.size:Int)≤(12:Int)))then
 bif (!a0.2.2)then
 k true
 else
 k (vap a0.2.1 (⟨#[]⟩:ByteArray))
 else
 k false
 else
 k false)
def vup:=shut v65
theorem wc7:vup=v65:=vaj _
instance n105n_p (a0:vag):ParC (vup a0):=by rw [wc7];unfold v65;(try dsimp only);infer_instance
def vjd (x:((List vag)×Bool×Int))(k:((List vag)×Bool×Int)⊕(((List vag)×Bool×Int)⊕((List vag)×Bool×Int))→Option Res):Option Res:=
 bif (decide (x.2.2<(x.1.length:Int)))then
 if 0≤x.2.2∧x.2.2<(x.1.length:Int)then
 vup (rd (Ty.zero tWrite) x.1 x.2.2) (fun y3=>
 bif (!y3)then
 k (.inr (.inl (x.1,false,x.2.2)))
 else
 bif (decide (x.2.2>0))then
 if 0≤(IntKind.wrap .i64 (x.2.2-1))∧(IntKind.wrap .i64 (x.2.2-1))<(x.1.length:Int)then
 if 0≤x.2.2∧x.2.2<(x.1.length:Int)then
 bif (!(va3 ((rd (Ty.zero tWrite) x.1 (IntKind.wrap .i64 (x.2.2-1))).1) ((rd (Ty.zero tWrite) x.1 x.2.2).1)))then
 k (.inr (.inl (x.1,false,x.2.2)))
 else
 k (.inl (x.1,x.2.1,(IntKind.wrap .i64 (x.2.2+1))))
 else none
 else none
 else
 k (.inl (x.1,x.2.1,(IntKind.wrap .i64 (x.2.2+1)))))
 else none
 else
 k (.inr (.inr (x.1,x.2.1,x.2.2)))
instance n106n_bp0 (x:((List vag)×Bool×Int)):ParC (vjd x):=by unfold vjd;(try dsimp only);infer_instance
def v8d (a0:(List vag))(k:Bool→Option Res):Option Res:=
 vae vjd Fuel (a0,false,0) (Sum.elim (fun z1=>
 k z1.2.1) (fun z2=>
 k (decide ((z2.1.length:Int)≤(8:Int)))))
def vr9:=shut v8d
theorem wem:vr9=v8d:=vaj _
instance n106n_p (a0:(List vag)):ParC (vr9 a0):=by rw [wem];unfold v8d;(try dsimp only);infer_instance
def wgi (a0:vai)(k:Bool→Option Res):Option Res:=
 vjb a0.1 (fun y1=>
 bif y1 then
 vjb a0.2 (fun y2=>
 bif y2 then
 k ((va3 a0.1 a0.2)||(vap a0.1 a0.2))
 else
 k false)
 else
 k false)
def v20:=shut wgi
theorem wpk:v20=wgi:=vaj _
instance n90n_p (a0:vai):ParC (v20 a0):=by rw [wpk];unfold wgi;(try dsimp only);infer_instance
def vcb (x:q31T)(k:q31T→Option Res):Option Res:=
 let xh:=x.2.2.2.2.2.2.2.2
 bif (x.2.2.1 != (1:Int))then
 k (true,x.2.1,x.2.2.1,x.2.2.2.1,x.2.2.2.2.1,x.2.2.2.2.2.1,x.2.2.2.2.2.2.1,x.2.2.2.2.2.2.2.1,xh)
 else
 k ((!x.2.2.2.2.2.2.2.1),x.2.1,x.2.2.1,x.2.2.2.1,x.2.2.2.2.1,x.2.2.2.2.2.1,x.2.2.2.2.2.2.1,x.2.2.2.2.2.2.2.1,xh)
instance n101n_jp5000012 (x:q31T):ParC (vcb x):=by unfold vcb;(try dsimp only);infer_instance
def vcc (x:q31T)(k:q31T→Option Res):Option Res:=
 let xh:=x.2.2.2.2.2.2.2.2
 let t0:=(x.1,x.2.1,x.2.2.1,x.2.2.2.1,x.2.2.2.2.1,x.2.2.2.2.2.1,x.2.2.2.2.2.2.1,x.2.2.2.2.2.2.2.1,xh)
 let t1:=(false,x.2.1,x.2.2.1,x.2.2.2.1,x.2.2.2.2.1,x.2.2.2.2.2.1,x.2.2.2.2.2.2.1,x.2.2.2.2.2.2.2.1,xh)
 bif (x.2.2.1==(2:Int))then
 vjb xh (fun y14=>
 bif (!y14)then
 k t1
 else
 bif (x.2.2.1 != (2:Int))then
 bif (!(vap xh (⟨#[]⟩:ByteArray)))then
 k t1
 else
 vcb t0 (fun z15=>
 k (z15.1,z15.2.1,z15.2.2.1,z15.2.2.2.1,z15.2.2.2.2.1,z15.2.2.2.2.2.1,z15.2.2.2.2.2.2.1,z15.2.2.2.2.2.2.2.1,z15.2.2.2.2.2.2.2.2))
 else
 vcb t0 (fun z16=>
 k (z16.1,z16.2.1,z16.2.2.1,z16.2.2.2.1,z16.2.2.2.2.1,z16.2.2.2.2.2.1,z16.2.2.2.2.2.2.1,z16.2.2.2.2.2.2.2.1,z16.2.2.2.2.2.2.2.2)))
 else
 bif (x.2.2.1 != (2:Int))then
 bif (!(vap xh (⟨#[]⟩:ByteArray)))then
 k t1
 else
 vcb t0 (fun z17=>
 k (z17.1,z17.2.1,z17.2.2.1,z17.2.2.2.1,z17.2.2.2.2.1,z17.2.2.2.2.2.1,z17.2.2.2.2.2.2.1,z17.2.2.2.2.2.2.2.1,z17.2.2.2.2.2.2.2.2))
 else
 vcb t0 (fun z18=>
 k (z18.1,z18.2.1,z18.2.2.1,z18.2.2.2.1,z18.2.2.2.2.1,z18.2.2.2.2.2.1,z18.2.2.2.2.2.2.1,z18.2.2.2.2.2.2.2.1,z18.2.2.2.2.2.2.2.2))
instance n101n_jp5000010 (x:q31T):ParC (vcc x):=by unfold vcc;(try dsimp only);exact⟨(vaf ((n89n_p _).p.bind fun y14=>(vaf (vab _) (vaf (vaf (vab _) ((n101n_jp5000012 _).p.bind fun z15=>(vab _))) ((n101n_jp5000012 _).p.bind fun z16=>(vab _))))) (vaf (vaf (vab _) ((n101n_jp5000012 _).p.bind fun z17=>(vab _))) ((n101n_jp5000012 _).p.bind fun z18=>(vab _))))⟩
def vjk (x:q33T)(k:q33T⊕(q33T⊕q33T)→Option Res):Option Res:=
 let xh:=x.2.2.2.2.2.2.2.2
 bif (decide (x.2.1<(x.2.2.2.2.2.2.1.length:Int)))then
 if 0≤x.2.1∧x.2.1<(x.2.2.2.2.2.2.1.length:Int)then
 v20 (rd (Ty.zero tRange) x.2.2.2.2.2.2.1 x.2.1) (fun y6=>
 bif (!y6)then
 k (.inr (.inl (false,x.2.1,x.2.2.1,x.2.2.2.1,x.2.2.2.2.1,x.2.2.2.2.2.1,x.2.2.2.2.2.2.1,x.2.2.2.2.2.2.2.1,xh.1,xh.2)))
 else
 k (.inl (x.1,(IntKind.wrap .i64 (x.2.1+1)),x.2.2.1,x.2.2.2.1,x.2.2.2.2.1,x.2.2.2.2.2.1,x.2.2.2.2.2.2.1,x.2.2.2.2.2.2.2.1,xh.1,xh.2)))
 else none
 else
 k (.inr (.inr (x.1,x.2.1,x.2.2.1,x.2.2.2.1,x.2.2.2.2.1,x.2.2.2.2.2.1,x.2.2.2.2.2.2.1,x.2.2.2.2.2.2.2.1,xh.1,xh.2)))
instance n101n_bp0 (x:q33T):ParC (vjk x):=by unfold vjk;(try dsimp only);infer_instance
def vdo (x:q31T)(k:q31T→Option Res):Option Res:=
 vae vjk Fuel (x.1,0,x.2.1,x.2.2.1,x.2.2.2.1,x.2.2.2.2.1,x.2.2.2.2.2.1,x.2.2.2.2.2.2.1,x.2.2.2.2.2.2.2.1,x.2.2.2.2.2.2.2.2) (Sum.elim (fun z7=>
 let z7h:=z7.2.2.2.2.2.2.2.2
 k (z7.1,z7.2.2.1,z7.2.2.2.1,z7.2.2.2.2.1,z7.2.2.2.2.2.1,z7.2.2.2.2.2.2.1,z7.2.2.2.2.2.2.2.1,z7h.1,z7h.2)) (fun z8=>
 let z8h:=z8.2.2.2.2.2.2.2.2
 bif (z8.2.2.2.1==(3:Int))then
 vci z8.2.2.2.2.2.1 (IntKind.wrap .i64 (z8.2.2.2.2.1+1)) (9999:Int) (fun y9=>
 bif (!y9)then
 k (false,z8.2.2.1,z8.2.2.2.1,z8.2.2.2.2.1,z8.2.2.2.2.2.1,z8.2.2.2.2.2.2.1,z8.2.2.2.2.2.2.2.1,z8h.1,z8h.2)
 else
 bif (z8.2.2.2.1 != (3:Int))then
 bif (z8.2.2.2.2.2.1 != (0:Int))then
 k (false,z8.2.2.1,z8.2.2.2.1,z8.2.2.2.2.1,z8.2.2.2.2.2.1,z8.2.2.2.2.2.2.1,z8.2.2.2.2.2.2.2.1,z8h.1,z8h.2)
 else
 vcc (z8.1,z8.2.2.1,z8.2.2.2.1,z8.2.2.2.2.1,z8.2.2.2.2.2.1,z8.2.2.2.2.2.2.1,z8.2.2.2.2.2.2.2.1,z8h.1,z8h.2) (fun z10=>
 k (z10.1,z10.2.1,z10.2.2.1,z10.2.2.2.1,z10.2.2.2.2.1,z10.2.2.2.2.2.1,z10.2.2.2.2.2.2.1,z10.2.2.2.2.2.2.2.1,z10.2.2.2.2.2.2.2.2))
 else
 vcc (z8.1,z8.2.2.1,z8.2.2.2.1,z8.2.2.2.2.1,z8.2.2.2.2.2.1,z8.2.2.2.2.2.2.1,z8.2.2.2.2.2.2.2.1,z8h.1,z8h.2) (fun z11=>
 k (z11.1,z11.2.1,z11.2.2.1,z11.2.2.2.1,z11.2.2.2.2.1,z11.2.2.2.2.2.1,z11.2.2.2.2.2.2.1,z11.2.2.2.2.2.2.2.1,z11.2.2.2.2.2.2.2.2)))
 else
 bif (z8.2.2.2.1 != (3:Int))then
 bif (z8.2.2.2.2.2.1 != (0:Int))then
 k (false,z8.2.2.1,z8.2.2.2.1,z8.2.2.2.2.1,z8.2.2.2.2.2.1,z8.2.2.2.2.2.2.1,z8.2.2.2.2.2.2.2.1,z8h.1,z8h.2)
 else
 vcc (z8.1,z8.2.2.1,z8.2.2.2.1,z8.2.2.2.2.1,z8.2.2.2.2.2.1,z8.2.2.2.2.2.2.1,z8.2.2.2.2.2.2.2.1,z8h.1,z8h.2) (fun z12=>
 k (z12.1,z12.2.1,z12.2.2.1,z12.2.2.2.1,z12.2.2.2.2.1,z12.2.2.2.2.2.1,z12.2.2.2.2.2.2.1,z12.2.2.2.2.2.2.2.1,z12.2.2.2.2.2.2.2.2))
 else
 vcc (z8.1,z8.2.2.1,z8.2.2.2.1,z8.2.2.2.2.1,z8.2.2.2.2.2.1,z8.2.2.2.2.2.2.1,z8.2.2.2.2.2.2.2.1,z8h.1,z8h.2) (fun z13=>
 k (z13.1,z13.2.1,z13.2.2.1,z13.2.2.2.1,z13.2.2.2.2.1,z13.2.2.2.2.2.1,z13.2.2.2.2.2.2.1,z13.2.2.2.2.2.2.2.1,z13.2.2.2.2.2.2.2.2))))
instance n101n_jp5000003 (x:q31T):ParC (vdo x):=by unfold vdo;(try dsimp only);exact⟨((vbz (fun x=>(n101n_bp0 x).p) _ _).bind2 (fun z7=>(vab _)) (fun z8=>(vaf ((n107n_p _ _ _).p.bind fun y9=>(vaf (vab _) (vaf (vaf (vab _) ((n101n_jp5000010 _).p.bind fun z10=>(vab _))) ((n101n_jp5000010 _).p.bind fun z11=>(vab _))))) (vaf (vaf (vab _) ((n101n_jp5000010 _).p.bind fun z12=>(vab _))) ((n101n_jp5000010 _).p.bind fun z13=>(vab _))))))⟩
def v5s (a0:dTxn)(k:Bool→Option Res):Option Res:=
 vci a0.1 (1:Int) (9999:Int) (fun y1=>
 bif (!y1)then
 k false
 else
 vci a0.2.1 (1:Int) (3:Int) (fun y2=>
 bif (!y2)then
 k false
 else
 vci a0.2.2.1 (0:Int) (9999:Int) (fun y3=>
 bif (!y3)then
 k false
 else
 bif (decide ((a0.2.2.2.2.1.length:Int)>(8:Int)))then
 k false
 else
 vr9 a0.2.2.2.2.2.1 (fun y4=>
 bif (!y4)then
 k false
 else
 vdo (false,a0.1,a0.2.1,a0.2.2.1,a0.2.2.2.1,a0.2.2.2.2.1,a0.2.2.2.2.2.1,a0.2.2.2.2.2.2.1,a0.2.2.2.2.2.2.2) (fun z5=>
 k z5.1)))))
def vf2:=shut v5s
theorem wcs:vf2=v5s:=vaj _
instance n101n_p (a0:dTxn):ParC (vf2 a0):=by rw [wcs];unfold v5s;(try dsimp only);exact⟨((n107n_p _ _ _).p.bind fun y1=>(vaf (vab _) ((n107n_p _ _ _).p.bind fun y2=>(vaf (vab _) ((n107n_p _ _ _).p.bind fun y3=>(vaf (vab _) (vaf (vab _) ((n106n_p _).p.bind fun y4=>(vaf (vab _) ((n101n_jp5000003 _).p.bind fun z5=>(vab _)))))))))))⟩
def vhj (x:q77T)(k:q59T→Option Res):Option Res:=
 let xh:=x.2.2.2.2.2.2.2.2
 let xhh:=xh.2.2.2.2.2.2.2.2
 k (x.2.2.2.2.2.2.2.1,true,xh.2.1,xh.2.2.1,xh.2.2.2.1,xh.2.2.2.2.1,xh.2.2.2.2.2.1,xh.2.2.2.2.2.2.1,x.2.2.2.2.2.2.1,x.2.2.2.2.2.2.2.1,xh.1,xh.2.1,xh.2.2.1,xh.2.2.2.1,xh.2.2.2.2.1,xh.2.2.2.2.2.1,xh.2.2.2.2.2.2.1,xhh.2.1,xhh.2.2)
instance n94n_jp5000025 (x:q77T):ParC (vhj x):=by unfold vhj;(try dsimp only);infer_instance
def vfh (x:q83T)(k:q83T→Option Res):Option Res:=
 let xh:=x.2.2.2.2.2.2.2.2
 let xhh:=xh.2.2.2.2.2.2.2.2
 vg7 xh.1 xh.2.1 xh.2.2.1 (fun y15=>
 vg7 y15.2.1 y15.2.2.1 y15.2.2.2 (fun y16=>
 if xhh.2.length+[(y15.1,y16.1)].length≤VE.maxLen then
 k (x.1,(IntKind.wrap .i64 (x.2.1+(1:Int))),x.2.2.1,x.2.2.2.1,x.2.2.2.2.1,x.2.2.2.2.2.1,x.2.2.2.2.2.2.1,x.2.2.2.2.2.2.2.1,y16.2.1,y16.2.2.1,y16.2.2.2,xh.2.2.2.1,xh.2.2.2.2.1,xh.2.2.2.2.2.1,xh.2.2.2.2.2.2.1,xh.2.2.2.2.2.2.2.1,xhh.1,(xhh.2++[(y15.1,y16.1)]))
 else none))
instance n94n_jp6000001 (x:q83T):ParC (vfh x):=by unfold vfh;(try dsimp only);infer_instance
def vo3 (x:q83T)(k:q83T⊕q83T→Option Res):Option Res:=
 let xh:=x.2.2.2.2.2.2.2.2
 let xhh:=xh.2.2.2.2.2.2.2.2
 let t0:=(x.1,x.2.1,x.2.2.1,x.2.2.2.1,x.2.2.2.2.1,x.2.2.2.2.2.1,x.2.2.2.2.2.2.1,x.2.2.2.2.2.2.2.1,xh.1,xh.2.1,xh.2.2.1,xh.2.2.2.1,xh.2.2.2.2.1,xh.2.2.2.2.2.1,xh.2.2.2.2.2.2.1,xh.2.2.2.2.2.2.2.1,xhh.1,xhh.2)
 bif (decide (x.2.1<x.1))then
 bif (decide (x.2.1<10))then
 bif (!xh.2.2.1)then
 vfh t0 (fun z13=>
 let z13h:=z13.2.2.2.2.2.2.2.2
 let z13hh:=z13h.2.2.2.2.2.2.2.2
 k (.inl (z13.1,z13.2.1,z13.2.2.1,z13.2.2.2.1,z13.2.2.2.2.1,z13.2.2.2.2.2.1,z13.2.2.2.2.2.2.1,z13.2.2.2.2.2.2.2.1,z13h.1,z13h.2.1,z13h.2.2.1,z13h.2.2.2.1,z13h.2.2.2.2.1,z13h.2.2.2.2.2.1,z13h.2.2.2.2.2.2.1,z13h.2.2.2.2.2.2.2.1,z13hh.1,z13hh.2)))
 else
 k (.inr t0)
 else
 k (.inr t0)
 else
 k (.inr t0)
instance n94n_bp0 (x:q83T):ParC (vo3 x):=by unfold vo3;(try dsimp only);infer_instance
def vfe (x:q82T)(k:q82T→Option Res):Option Res:=
 let xh:=x.2.2.2.2.2.2.2.2
 let xhh:=xh.2.2.2.2.2.2.2.2
 vg7 xh.1 xh.2.1 xh.2.2.1 (fun y17=>
 vg7 y17.2.1 y17.2.2.1 y17.2.2.2 (fun y18=>
 vop y18.2.1 y18.2.2.1 y18.2.2.2 (fun y19=>
 if xhh.2.2.length+[(y17.1,(y18.1,y19.1))].length≤VE.maxLen then
 k (x.1,(IntKind.wrap .i64 (x.2.1+(1:Int))),x.2.2.1,x.2.2.2.1,x.2.2.2.2.1,x.2.2.2.2.2.1,x.2.2.2.2.2.2.1,x.2.2.2.2.2.2.2.1,y19.2.1,y19.2.2.1,y19.2.2.2,xh.2.2.2.1,xh.2.2.2.2.1,xh.2.2.2.2.2.1,xh.2.2.2.2.2.2.1,xh.2.2.2.2.2.2.2.1,xhh.1,xhh.2.1,(xhh.2.2++[(y17.1,(y18.1,y19.1))]))
 else none)))
instance n94n_jp6000003 (x:q82T):ParC (vfe x):=by unfold vfe;(try dsimp only);infer_instance
def vpo (x:q82T)(k:q82T⊕q82T→Option Res):Option Res:=
 let xh:=x.2.2.2.2.2.2.2.2
 let xhh:=xh.2.2.2.2.2.2.2.2
 let t0:=(x.1,x.2.1,x.2.2.1,x.2.2.2.1,x.2.2.2.2.1,x.2.2.2.2.2.1,x.2.2.2.2.2.2.1,x.2.2.2.2.2.2.2.1,xh.1,xh.2.1,xh.2.2.1,xh.2.2.2.1,xh.2.2.2.2.1,xh.2.2.2.2.2.1,xh.2.2.2.2.2.2.1,xh.2.2.2.2.2.2.2.1,xhh.1,xhh.2.1,xhh.2.2)
 bif (decide (x.2.1<x.1))then
 bif (decide (x.2.1<10))then
 bif (!xh.2.2.1)then
 vfe t0 (fun z14=>
 let z14h:=z14.2.2.2.2.2.2.2.2
 let z14hh:=z14h.2.2.2.2.2.2.2.2
 k (.inl (z14.1,z14.2.1,z14.2.2.1,z14.2.2.2.1,z14.2.2.2.2.1,z14.2.2.2.2.2.1,z14.2.2.2.2.2.2.1,z14.2.2.2.2.2.2.2.1,z14h.1,z14h.2.1,z14h.2.2.1,z14h.2.2.2.1,z14h.2.2.2.2.1,z14h.2.2.2.2.2.1,z14h.2.2.2.2.2.2.1,z14h.2.2.2.2.2.2.2.1,z14hh.1,z14hh.2.1,z14hh.2.2)))
 else
 k (.inr t0)
 else
 k (.inr t0)
 else
 k (.inr t0)
instance n94n_bp2 (x:q82T):ParC (vpo x):=by unfold vpo;(try dsimp only);infer_instance
def whm (a0:ByteArray)(a1:Int)(k:q78T→Option Res):Option Res:=
 ve0 a0 a1 false (fun y1=>
 ve0 y1.2.1 y1.2.2.1 y1.2.2.2 (fun y2=>
 ve0 y2.2.1 y2.2.2.1 y2.2.2.2 (fun y3=>
 ve0 y3.2.1 y3.2.2.1 y3.2.2.2 (fun y4=>
 ve0 y4.2.1 y4.2.2.1 y4.2.2.2 (fun y5=>
 vae vo3 Fuel (y5.1,0,0,0,0,0,false,(⟨#[]⟩:ByteArray),y5.2.1,y5.2.2.1,y5.2.2.2,y1.1,y2.1,y3.1,y4.1,false,(⟨#[]⟩:ByteArray),([]:List vai)) (fun z6=>
 let z6h:=z6.2.2.2.2.2.2.2.2
 let z6hh:=z6h.2.2.2.2.2.2.2.2
 ve0 z6h.1 z6h.2.1 z6h.2.2.1 (fun y7=>
 vae vpo Fuel (y7.1,0,z6.2.2.1,z6.2.2.2.1,z6.2.2.2.2.1,z6.2.2.2.2.2.1,z6.2.2.2.2.2.2.1,z6.2.2.2.2.2.2.2.1,y7.2.1,y7.2.2.1,y7.2.2.2,z6h.2.2.2.1,z6h.2.2.2.2.1,z6h.2.2.2.2.2.1,z6h.2.2.2.2.2.2.1,z6h.2.2.2.2.2.2.2.1,z6hh.1,z6hh.2,([]:List vag)) (fun z8=>
 let z8h:=z8.2.2.2.2.2.2.2.2
 let z8hh:=z8h.2.2.2.2.2.2.2.2
 vop z8h.1 z8h.2.1 z8h.2.2.1 (fun y9=>
 vg7 y9.2.1 y9.2.2.1 y9.2.2.2 (fun y10=>
 bif y10.2.2.2 then
 k (0,0,0,0,false,(⟨#[]⟩:ByteArray),0,false,([]:List vai),([]:List vag))
 else
 vf2 (z8h.2.2.2.1,(z8h.2.2.2.2.1,(z8h.2.2.2.2.2.1,(z8h.2.2.2.2.2.2.1,(z8hh.2.1,(z8hh.2.2,(y9.1,y10.1))))))) (fun y11=>
 bif (!y11)then
 k (0,0,0,0,false,(⟨#[]⟩:ByteArray),0,false,([]:List vai),([]:List vag))
 else
 vhj (z8.2.2.1,z8.2.2.2.1,z8.2.2.2.2.1,z8.2.2.2.2.2.1,z8.2.2.2.2.2.2.1,z8.2.2.2.2.2.2.2.1,y10.2.1,y10.2.2.1,y10.2.2.2,z8h.2.2.2.1,z8h.2.2.2.2.1,z8h.2.2.2.2.2.1,z8h.2.2.2.2.2.2.1,y9.1,y10.1,([]:List vai),([]:List vag),z8hh.2.1,z8hh.2.2) (fun z12=>
 let z12h:=z12.2.2.2.2.2.2.2.2
 let z12hh:=z12h.2.2.2.2.2.2.2.2
 k (z12.2.2.1,z12.2.2.2.1,z12.2.2.2.2.1,z12.2.2.2.2.2.1,z12.2.2.2.2.2.2.1,z12.2.2.2.2.2.2.2.1,z12.1,z12.2.1,z12hh.2.1,z12hh.2.2)))))))))))))
def v3t:=shut whm
theorem wmj:v3t=whm:=vaj _
instance n94n_p (a0:ByteArray)(a1:Int):ParC (v3t a0 a1):=by rw [wmj];unfold whm;(try dsimp only);exact⟨((n114n_p _ _ _).p.bind fun y1=>((n114n_p _ _ _).p.bind fun y2=>((n114n_p _ _ _).p.bind fun y3=>((n114n_p _ _ _).p.bind fun y4=>((n114n_p _ _ _).p.bind fun y5=>((vbz (fun x=>(n94n_bp0 x).p) _ _).bind fun z6=>((n114n_p _ _ _).p.bind fun y7=>((vbz (fun x=>(n94n_bp2 x).p) _ _).bind fun z8=>((n111n_p _ _ _).p.bind fun y9=>((n112n_p _ _ _).p.bind fun y10=>(vaf (vab _) ((n101n_p _).p.bind fun y11=>(vaf (vab _) ((n94n_jp5000025 _).p.bind fun z12=>(vab _)))))))))))))))⟩
def vdq (x:q73T)(k:(q73T⊕q74T)→Option Res):Option Res:=
 v3t x.2.2.2.1 x.2.2.2.2.1 (fun y6=>
 let y6h:=y6.2.2.2.2.2.2.2.2
 bif (!y6.2.2.2.2.2.2.2.1)then
 k (.inr (x.1,x.2.1,x.2.2.1,x.2.2.2.1,x.2.2.2.2.1,true,x.2.2.2.2.2.2.2))
 else
 if x.2.2.2.2.2.2.2.length+[(y6.1,(y6.2.1,(y6.2.2.1,(y6.2.2.2.1,(y6h.1,(y6h.2,(y6.2.2.2.2.1,y6.2.2.2.2.2.1)))))))].length≤VE.maxLen then
 k (.inl (x.1,x.2.1,(IntKind.wrap .i64 (x.2.2.1+(1:Int))),x.2.2.2.1,y6.2.2.2.2.2.2.1,x.2.2.2.2.2.1,x.2.2.2.2.2.2.1,(x.2.2.2.2.2.2.2++[(y6.1,(y6.2.1,(y6.2.2.1,(y6.2.2.2.1,(y6h.1,(y6h.2,(y6.2.2.2.2.1,y6.2.2.2.2.2.1)))))))])))
 else none)
instance n117n_jp6000001 (x:q73T):ParC (vdq x):=by unfold vdq;(try dsimp only);infer_instance
def vgs (x:q73T)(k:q73T⊕(q73T⊕q74T)→Option Res):Option Res:=
 bif (decide (x.2.2.1<x.2.1))then
 bif (decide (x.2.2.1≤x.1))then
 bif (!x.2.2.2.2.2.1)then
 vdq (x.1,x.2.1,x.2.2.1,x.2.2.2.1,x.2.2.2.2.1,x.2.2.2.2.2.1,x.2.2.2.2.2.2.1,x.2.2.2.2.2.2.2) (Sum.elim (fun z4=>
 k (.inl (z4.1,z4.2.1,z4.2.2.1,z4.2.2.2.1,z4.2.2.2.2.1,z4.2.2.2.2.2.1,z4.2.2.2.2.2.2.1,z4.2.2.2.2.2.2.2))) (fun z5=>
 k (.inr (.inr (z5.1,z5.2.1,z5.2.2.1,z5.2.2.2.1,z5.2.2.2.2.1,z5.2.2.2.2.2.1,z5.2.2.2.2.2.2)))))
 else
 k (.inr (.inl (x.1,x.2.1,x.2.2.1,x.2.2.2.1,x.2.2.2.2.1,x.2.2.2.2.2.1,x.2.2.2.2.2.2.1,x.2.2.2.2.2.2.2)))
 else
 k (.inr (.inl (x.1,x.2.1,x.2.2.1,x.2.2.2.1,x.2.2.2.2.1,x.2.2.2.2.2.1,x.2.2.2.2.2.2.1,x.2.2.2.2.2.2.2)))
 else
 k (.inr (.inl (x.1,x.2.1,x.2.2.1,x.2.2.2.1,x.2.2.2.2.1,x.2.2.2.2.2.1,x.2.2.2.2.2.2.1,x.2.2.2.2.2.2.2)))
instance n117n_bp0 (x:q73T):ParC (vgs x):=by unfold vgs;(try dsimp only);infer_instance
def v55 (a0:Int)(a1:ByteArray)(a2:Int)(a3:Bool)(k:q46T→Option Res):Option Res:=
 ve0 a1 a2 a3 (fun y1=>
 vae vgs Fuel (a0,y1.1,0,y1.2.1,y1.2.2.1,y1.2.2.2,([]:List dTxn),([]:List dTxn)) (Sum.elim (fun z2=>
 k (z2.2.2.2.1,z2.2.2.2.2.1,z2.2.2.2.2.2.1,z2.2.2.2.2.2.2.2)) (fun z3=>
 k (z3.2.2.2.1,z3.2.2.2.2.1,z3.2.2.2.2.2.1,z3.2.2.2.2.2.2))))
def vsd:=shut v55
theorem wcu:vsd=v55:=vaj _
instance n117n_p (a0:Int)(a1:ByteArray)(a2:Int)(a3:Bool):ParC (vsd a0 a1 a2 a3):=by rw [wcu];unfold v55;(try dsimp only);infer_instance
def vc3 (x:q14T)(k:(q14T⊕q14T)→Option Res):Option Res:=
 let t0:=(IntKind.wrap .i64 (x.2.2.1-(1:Int)))
 bif (decide (x.2.2.1>0))then
 if 0≤t0∧t0<(x.1.length:Int)then
 bif (!((va3 ((rd (Ty.zero tVersion) x.1 t0).1) x.2.2.2.1)||(vap ((rd (Ty.zero tVersion) x.1 t0).1) x.2.2.2.1)))then
 k (.inl (x.1,false,x.2.2.1,x.2.2.2.1,x.2.2.2.2.1,x.2.2.2.2.2.1,x.2.2.2.2.2.2))
 else
 if 0≤t0∧t0<(x.1.length:Int)then
 bif (vap ((rd (Ty.zero tVersion) x.1 t0).1) x.2.2.2.1)then
 if 0≤t0∧t0<(x.1.length:Int)then
 bif (decide ((rd (Ty.zero tVersion) x.1 t0).2.2.2≥x.2.2.2.2.2.2))then
 k (.inl (x.1,false,x.2.2.1,x.2.2.2.1,x.2.2.2.2.1,x.2.2.2.2.2.1,x.2.2.2.2.2.2))
 else
 k (.inr (x.1,x.2.1,x.2.2.1,x.2.2.2.1,x.2.2.2.2.1,x.2.2.2.2.2.1,x.2.2.2.2.2.2))
 else none
 else
 k (.inr (x.1,x.2.1,x.2.2.1,x.2.2.2.1,x.2.2.2.2.1,x.2.2.2.2.2.1,x.2.2.2.2.2.2))
 else none
 else none
 else
 k (.inr (x.1,x.2.1,x.2.2.1,x.2.2.2.1,x.2.2.2.2.1,x.2.2.2.2.2.1,x.2.2.2.2.2.2))
instance n104n_jp5000007 (x:q14T):ParC (vc3 x):=by unfold vc3;(try dsimp only);infer_instance
def vjq (x:((List vaa)×Bool×Int))(k:((List vaa)×Bool×Int)⊕(((List vaa)×Bool×Int)⊕((List vaa)×Bool×Int))→Option Res):Option Res:=
 let t0:=(rd (Ty.zero tVersion) x.1 x.2.2)
 bif (decide (x.2.2<(x.1.length:Int)))then
 if 0≤x.2.2∧x.2.2<(x.1.length:Int)then
 vjb (t0.1) (fun y3=>
 bif (!y3)then
 k (.inr (.inl (x.1,false,x.2.2)))
 else
 bif (decide ((t0.2.1.size:Int)>(12:Int)))then
 k (.inr (.inl (x.1,false,x.2.2)))
 else
 bif t0.2.2.1 then
 bif (!(vap (t0.2.1) (⟨#[]⟩:ByteArray)))then
 k (.inr (.inl (x.1,false,x.2.2)))
 else
 vci (t0.2.2.2) (1:Int) (9999:Int) (fun y4=>
 bif (!y4)then
 k (.inr (.inl (x.1,false,x.2.2)))
 else
 vc3 (x.1,x.2.1,x.2.2,t0.1,t0.2.1,t0.2.2.1,t0.2.2.2) (Sum.elim (fun z5=>
 k (.inr (.inl (z5.1,z5.2.1,z5.2.2.1)))) (fun z6=>
 k (.inl (z6.1,z6.2.1,(IntKind.wrap .i64 (z6.2.2.1+1)))))))
 else
 vci (t0.2.2.2) (1:Int) (9999:Int) (fun y7=>
 bif (!y7)then
 k (.inr (.inl (x.1,false,x.2.2)))
 else
 vc3 (x.1,x.2.1,x.2.2,t0.1,t0.2.1,t0.2.2.1,t0.2.2.2) (Sum.elim (fun z8=>
 k (.inr (.inl (z8.1,z8.2.1,z8.2.2.1)))) (fun z9=>
 k (.inl (z9.1,z9.2.1,(IntKind.wrap .i64 (z9.2.2.1+1))))))))
 else none
 else
 k (.inr (.inr (x.1,x.2.1,x.2.2)))
instance n104n_bp0 (x:((List vaa)×Bool×Int)):ParC (vjq x):=by unfold vjq;(try dsimp only);exact⟨(vaf (vbo ((n89n_p _).p.bind fun y3=>(vaf (vab _) (vaf (vab _) (vaf (vaf (vab _) ((n107n_p _ _ _).p.bind fun y4=>(vaf (vab _) ((n104n_jp5000007 _).p.bind2 (fun z5=>(vab _)) (fun z6=>(vab _)))))) ((n107n_p _ _ _).p.bind fun y7=>(vaf (vab _) ((n104n_jp5000007 _).p.bind2 (fun z8=>(vab _)) (fun z9=>(vab _))))))))) va5) (vab _))⟩
def v7l (a0:(List vaa))(k:Bool→Option Res):Option Res:=
 vae vjq Fuel (a0,false,0) (Sum.elim (fun z1=>
 k z1.2.1) (fun z2=>
 k (decide ((z2.1.length:Int)≤(120:Int)))))
def vr4:=shut v7l
theorem wep:vr4=v7l:=vaj _
instance n104n_p (a0:(List vaa)):ParC (vr4 a0):=by rw [wep];unfold v7l;(try dsimp only);infer_instance
def voh (x:q29T)(k:q29T⊕(q29T⊕q29T)→Option Res):Option Res:=
 bif (decide (x.2.1<(x.2.2.1.length:Int)))then
 if 0≤x.2.1∧x.2.1<(x.2.2.1.length:Int)then
 bif (decide ((rd (Ty.zero tVersion) x.2.2.1 x.2.1).2.2.2>x.2.2.2.2.2.1))then
 k (.inr (.inl (false,x.2.1,x.2.2.1,x.2.2.2.1,x.2.2.2.2.1,x.2.2.2.2.2.1,x.2.2.2.2.2.2)))
 else
 k (.inl (x.1,(IntKind.wrap .i64 (x.2.1+1)),x.2.2.1,x.2.2.2.1,x.2.2.2.2.1,x.2.2.2.2.2.1,x.2.2.2.2.2.2))
 else none
 else
 k (.inr (.inr (x.1,x.2.1,x.2.2.1,x.2.2.2.1,x.2.2.2.2.1,x.2.2.2.2.2.1,x.2.2.2.2.2.2)))
instance n87n_bp0 (x:q29T):ParC (voh x):=by unfold voh;(try dsimp only);infer_instance
def vom (x:q28T)(k:q28T⊕(q28T⊕q28T)→Option Res):Option Res:=
 let t0:=(false,x.2.1,x.2.2.1,x.2.2.2.1,x.2.2.2.2.1,x.2.2.2.2.2.1,x.2.2.2.2.2.2.1,x.2.2.2.2.2.2.2)
 let t1:=(rd (Ty.zero tTxn) x.2.2.2.1 x.2.1)
 let t2:=(x.1,(IntKind.wrap .i64 (x.2.1+(1:Int))),x.2.2.1,x.2.2.2.1,x.2.2.2.2.1,x.2.2.2.2.2.1,x.2.2.2.2.2.2.1,(x.2.2.2.2.2.2.2++[t1.1]))
 let t3:=(IntKind.wrap .i64 (x.2.1-(1:Int)))
 bif (decide (x.2.1<(x.2.2.2.1.length:Int)))then
 if 0≤x.2.1∧x.2.1<(x.2.2.2.1.length:Int)then
 vf2 t1 (fun y5=>
 bif (!y5)then
 k (.inr (.inl t0))
 else
 bif (t1.2.1 != (3:Int))then
 k (.inr (.inl t0))
 else
 bif (decide (t1.2.2.2.1>x.2.2.2.2.2.1))then
 k (.inr (.inl t0))
 else
 bif (decide (x.2.1>0))then
 if 0≤t3∧t3<(x.2.2.2.1.length:Int)then
 bif (decide ((rd (Ty.zero tTxn) x.2.2.2.1 t3).2.2.2.1≥t1.2.2.2.1))then
 k (.inr (.inl t0))
 else
 if x.2.2.2.2.2.2.2.length+[t1.1].length≤VE.maxLen then
 k (.inl t2)
 else none
 else none
 else
 if x.2.2.2.2.2.2.2.length+[t1.1].length≤VE.maxLen then
 k (.inl t2)
 else none)
 else none
 else
 k (.inr (.inr (x.1,x.2.1,x.2.2.1,x.2.2.2.1,x.2.2.2.2.1,x.2.2.2.2.2.1,x.2.2.2.2.2.2.1,x.2.2.2.2.2.2.2)))
instance n87n_bp2 (x:q28T):ParC (vom x):=by unfold vom;(try dsimp only);infer_instance
def vpr (x:q28T)(k:q28T⊕(q28T⊕q28T)→Option Res):Option Res:=
 let t0:=(false,x.2.1,x.2.2.1,x.2.2.2.1,x.2.2.2.2.1,x.2.2.2.2.2.1,x.2.2.2.2.2.2.1,x.2.2.2.2.2.2.2)
 let t1:=(rd (Ty.zero tTxn) x.2.2.2.2.1 x.2.1)
 let t2:=(x.1,(IntKind.wrap .i64 (x.2.1+(1:Int))),x.2.2.1,x.2.2.2.1,x.2.2.2.2.1,x.2.2.2.2.2.1,x.2.2.2.2.2.2.1,(x.2.2.2.2.2.2.2++[t1.1]))
 let t3:=(IntKind.wrap .i64 (x.2.1-(1:Int)))
 bif (decide (x.2.1<(x.2.2.2.2.1.length:Int)))then
 if 0≤x.2.1∧x.2.1<(x.2.2.2.2.1.length:Int)then
 vf2 t1 (fun y6=>
 bif (!y6)then
 k (.inr (.inl t0))
 else
 bif (t1.2.1 != (2:Int))then
 k (.inr (.inl t0))
 else
 bif (decide (t1.2.2.1>x.2.2.2.2.2.1))then
 k (.inr (.inl t0))
 else
 bif (decide (x.2.1>0))then
 if 0≤t3∧t3<(x.2.2.2.2.1.length:Int)then
 bif (!(va3 ((rd (Ty.zero tTxn) x.2.2.2.2.1 t3).2.2.2.2.2.2.2) (t1.2.2.2.2.2.2.2)))then
 k (.inr (.inl t0))
 else
 if x.2.2.2.2.2.2.2.length+[t1.1].length≤VE.maxLen then
 k (.inl t2)
 else none
 else none
 else
 if x.2.2.2.2.2.2.2.length+[t1.1].length≤VE.maxLen then
 k (.inl t2)
 else none)
 else none
 else
 k (.inr (.inr (x.1,x.2.1,x.2.2.1,x.2.2.2.1,x.2.2.2.2.1,x.2.2.2.2.2.1,x.2.2.2.2.2.2.1,x.2.2.2.2.2.2.2)))
instance n87n_bp4 (x:q28T):ParC (vpr x):=by unfold vpr;(try dsimp only);infer_instance
def vrr (x:q30T)(k:q30T⊕(q30T⊕q30T)→Option Res):Option Res:=
 let xh:=x.2.2.2.2.2.2.2.2
 bif (decide (x.2.2.1<x.2.1))then
 if 0≤x.2.2.1∧x.2.2.1<(xh.length:Int)then
 if 0≤x.2.1∧x.2.1<(xh.length:Int)then
 bif ((xh.getD x.2.2.1.toNat (Ty.zero (.i)))==(xh.getD x.2.1.toNat (Ty.zero (.i))))then
 k (.inr (.inl (false,x.2.1,x.2.2.1,x.2.2.2.1,x.2.2.2.2.1,x.2.2.2.2.2.1,x.2.2.2.2.2.2.1,x.2.2.2.2.2.2.2.1,xh)))
 else
 k (.inl (x.1,x.2.1,(IntKind.wrap .i64 (x.2.2.1+1)),x.2.2.2.1,x.2.2.2.2.1,x.2.2.2.2.2.1,x.2.2.2.2.2.2.1,x.2.2.2.2.2.2.2.1,xh))
 else none
 else none
 else
 k (.inr (.inr (x.1,x.2.1,x.2.2.1,x.2.2.2.1,x.2.2.2.2.1,x.2.2.2.2.2.1,x.2.2.2.2.2.2.1,x.2.2.2.2.2.2.2.1,xh)))
instance n87n_bp8 (x:q30T):ParC (vrr x):=by unfold vrr;(try dsimp only);infer_instance
def vn3 (x:q28T)(k:q28T⊕(q28T⊕q28T)→Option Res):Option Res:=
 bif (decide (x.2.1<(x.2.2.2.2.2.2.2.length:Int)))then
 vae vrr Fuel (x.1,x.2.1,0,x.2.2.1,x.2.2.2.1,x.2.2.2.2.1,x.2.2.2.2.2.1,x.2.2.2.2.2.2.1,x.2.2.2.2.2.2.2) (Sum.elim (fun z7=>
 k (.inr (.inr (z7.1,z7.2.1,z7.2.2.2.1,z7.2.2.2.2.1,z7.2.2.2.2.2.1,z7.2.2.2.2.2.2.1,z7.2.2.2.2.2.2.2.1,z7.2.2.2.2.2.2.2.2)))) (fun z8=>
 let z8h:=z8.2.2.2.2.2.2.2.2
 if 0≤z8.2.1∧z8.2.1<(z8h.length:Int)then
 bif (decide ((z8h.getD z8.2.1.toNat (Ty.zero (.i)))≥z8.2.2.2.2.2.2.2.1))then
 k (.inr (.inr (false,z8.2.1,z8.2.2.2.1,z8.2.2.2.2.1,z8.2.2.2.2.2.1,z8.2.2.2.2.2.2.1,z8.2.2.2.2.2.2.2.1,z8h)))
 else
 k (.inl (z8.1,(IntKind.wrap .i64 (z8.2.1+1)),z8.2.2.2.1,z8.2.2.2.2.1,z8.2.2.2.2.2.1,z8.2.2.2.2.2.2.1,z8.2.2.2.2.2.2.2.1,z8h))
 else none))
 else
 k (.inr (.inl (x.1,x.2.1,x.2.2.1,x.2.2.2.1,x.2.2.2.2.1,x.2.2.2.2.2.1,x.2.2.2.2.2.2.1,x.2.2.2.2.2.2.2)))
instance n87n_bp6 (x:q28T):ParC (vn3 x):=by unfold vn3;(try dsimp only);infer_instance
def vee (x:q23T)(k:q23T→Option Res):Option Res:=
 vae voh Fuel (x.1,0,x.2.1,x.2.2.1,x.2.2.2.1,x.2.2.2.2.1,x.2.2.2.2.2) (Sum.elim (fun z9=>
 k (z9.1,z9.2.2.1,z9.2.2.2.1,z9.2.2.2.2.1,z9.2.2.2.2.2.1,z9.2.2.2.2.2.2)) (fun z10=>
 vae vom Fuel (z10.1,0,z10.2.2.1,z10.2.2.2.1,z10.2.2.2.2.1,z10.2.2.2.2.2.1,z10.2.2.2.2.2.2,([]:List Int)) (Sum.elim (fun z11=>
 k (z11.1,z11.2.2.1,z11.2.2.2.1,z11.2.2.2.2.1,z11.2.2.2.2.2.1,z11.2.2.2.2.2.2.1)) (fun z12=>
 vae vpr Fuel (z12.1,0,z12.2.2.1,z12.2.2.2.1,z12.2.2.2.2.1,z12.2.2.2.2.2.1,z12.2.2.2.2.2.2.1,z12.2.2.2.2.2.2.2) (Sum.elim (fun z13=>
 k (z13.1,z13.2.2.1,z13.2.2.2.1,z13.2.2.2.2.1,z13.2.2.2.2.2.1,z13.2.2.2.2.2.2.1)) (fun z14=>
 vae vn3 Fuel (z14.1,0,z14.2.2.1,z14.2.2.2.1,z14.2.2.2.2.1,z14.2.2.2.2.2.1,z14.2.2.2.2.2.2.1,z14.2.2.2.2.2.2.2) (Sum.elim (fun z15=>
 k (true,z15.2.2.1,z15.2.2.2.1,z15.2.2.2.2.1,z15.2.2.2.2.2.1,z15.2.2.2.2.2.2.1)) (fun z16=>
 k (z16.1,z16.2.2.1,z16.2.2.2.1,z16.2.2.2.2.1,z16.2.2.2.2.2.1,z16.2.2.2.2.2.2.1)))))))))
instance n87n_jp5000003 (x:q23T):ParC (vee x):=by unfold vee;(try dsimp only);exact⟨((vbz (fun x=>(n87n_bp0 x).p) _ _).bind2 (fun z9=>(vab _)) (fun z10=>((vbz (fun x=>(n87n_bp2 x).p) _ _).bind2 (fun z11=>(vab _)) (fun z12=>((vbz (fun x=>(n87n_bp4 x).p) _ _).bind2 (fun z13=>(vab _)) (fun z14=>((vbz (fun x=>(n87n_bp6 x).p) _ _).bind2 (fun z15=>(vab _)) (fun z16=>(vab _)))))))))⟩
def wg6 (a0:vfd)(k:Bool→Option Res):Option Res:=
 vr4 a0.1 (fun y1=>
 bif (!y1)then
 k false
 else
 bif (decide ((a0.2.1.length:Int)>(12:Int)))then
 k false
 else
 bif (decide ((a0.2.2.1.length:Int)>(3:Int)))then
 k false
 else
 vci a0.2.2.2.1 (0:Int) (9999:Int) (fun y2=>
 bif (!y2)then
 k false
 else
 vci a0.2.2.2.2 (1:Int) (9999:Int) (fun y3=>
 bif (!y3)then
 k false
 else
 vee (false,a0.1,a0.2.1,a0.2.2.1,a0.2.2.2.1,a0.2.2.2.2) (fun z4=>
 k z4.1))))
def vrl:=shut wg6
theorem wn0:vrl=wg6:=vaj _
instance n87n_p (a0:vfd):ParC (vrl a0):=by rw [wn0];unfold wg6;(try dsimp only);infer_instance
def vhm (x:q66T)(k:q58T→Option Res):Option Res:=
 let xh:=x.2.2.2.2.2.2.2.2
 k (x.2.2.2.1,true,x.2.2.2.2.2.1,x.2.2.2.2.2.2.1,x.2.2.1,x.2.2.2.1,x.2.2.2.2.1,x.2.2.2.2.2.1,x.2.2.2.2.2.2.1,xh.2.2.1,xh.2.2.2.1,xh.2.2.2.2)
instance n91n_jp5000017 (x:q66T):ParC (vhm x):=by unfold vhm;(try dsimp only);infer_instance
def vfx (x:q79T)(k:q79T→Option Res):Option Res:=
 let xh:=x.2.2.2.2.2.2.2.2
 vg7 x.2.2.2.2.1 x.2.2.2.2.2.1 x.2.2.2.2.2.2.1 (fun y10=>
 vg7 y10.2.1 y10.2.2.1 y10.2.2.2 (fun y11=>
 vop y11.2.1 y11.2.2.1 y11.2.2.2 (fun y12=>
 ve0 y12.2.1 y12.2.2.1 y12.2.2.2 (fun y13=>
 if xh.2.length+[(y10.1,(y11.1,(y12.1,y13.1)))].length≤VE.maxLen then
 k (x.1,(IntKind.wrap .i64 (x.2.1+(1:Int))),x.2.2.1,x.2.2.2.1,y13.2.1,y13.2.2.1,y13.2.2.2,x.2.2.2.2.2.2.2.1,xh.1,(xh.2++[(y10.1,(y11.1,(y12.1,y13.1)))]))
 else none))))
instance n91n_jp6000001 (x:q79T):ParC (vfx x):=by unfold vfx;(try dsimp only);infer_instance
def vpg (x:q79T)(k:q79T⊕q79T→Option Res):Option Res:=
 let xh:=x.2.2.2.2.2.2.2.2
 bif (decide (x.2.1<x.1))then
 bif (decide (x.2.1<130))then
 bif (!x.2.2.2.2.2.2.1)then
 vfx (x.1,x.2.1,x.2.2.1,x.2.2.2.1,x.2.2.2.2.1,x.2.2.2.2.2.1,x.2.2.2.2.2.2.1,x.2.2.2.2.2.2.2.1,xh.1,xh.2) (fun z9=>
 let z9h:=z9.2.2.2.2.2.2.2.2
 k (.inl (z9.1,z9.2.1,z9.2.2.1,z9.2.2.2.1,z9.2.2.2.2.1,z9.2.2.2.2.2.1,z9.2.2.2.2.2.2.1,z9.2.2.2.2.2.2.2.1,z9h.1,z9h.2)))
 else
 k (.inr (x.1,x.2.1,x.2.2.1,x.2.2.2.1,x.2.2.2.2.1,x.2.2.2.2.2.1,x.2.2.2.2.2.2.1,x.2.2.2.2.2.2.2.1,xh.1,xh.2))
 else
 k (.inr (x.1,x.2.1,x.2.2.1,x.2.2.2.1,x.2.2.2.2.1,x.2.2.2.2.2.1,x.2.2.2.2.2.2.1,x.2.2.2.2.2.2.2.1,xh.1,xh.2))
 else
 k (.inr (x.1,x.2.1,x.2.2.1,x.2.2.2.1,x.2.2.2.2.1,x.2.2.2.2.2.1,x.2.2.2.2.2.2.1,x.2.2.2.2.2.2.2.1,xh.1,xh.2))
instance n91n_bp0 (x:q79T):ParC (vpg x):=by unfold vpg;(try dsimp only);infer_instance
def wia (a0:ByteArray)(a1:Int)(k:(q72T⊕q72T)→Option Res):Option Res:=
 ve0 a0 a1 false (fun y1=>
 ve0 y1.2.1 y1.2.2.1 y1.2.2.2 (fun y2=>
 ve0 y2.2.1 y2.2.2.1 y2.2.2.2 (fun y3=>
 vae vpg Fuel (y3.1,0,0,0,y3.2.1,y3.2.2.1,y3.2.2.2,y1.1,y2.1,([]:List vaa)) (fun z4=>
 let z4h:=z4.2.2.2.2.2.2.2.2
 vsd (12:Int) z4.2.2.2.2.1 z4.2.2.2.2.2.1 z4.2.2.2.2.2.2.1 (fun y5=>
 vsd (3:Int) y5.1 y5.2.1 y5.2.2.1 (fun y6=>
 bif y6.2.2.1 then
 k (.inl (0,0,0,false,([]:List vaa),([]:List dTxn),([]:List dTxn)))
 else
 vrl (z4h.2,(y5.2.2.2,(y6.2.2.2,(z4.2.2.2.2.2.2.2.1,z4h.1)))) (fun y7=>
 bif (!y7)then
 k (.inl (0,0,0,false,([]:List vaa),([]:List dTxn),([]:List dTxn)))
 else
 vhm (z4.2.2.1,z4.2.2.2.1,y6.1,y6.2.1,y6.2.2.1,z4.2.2.2.2.2.2.2.1,z4h.1,([]:List vaa),([]:List dTxn),([]:List dTxn),z4h.2,y5.2.2.2,y6.2.2.2) (fun z8=>
 let z8h:=z8.2.2.2.2.2.2.2.2
 k (.inr (z8.2.2.1,z8.2.2.2.1,z8.1,z8.2.1,z8h.2.1,z8h.2.2.1,z8h.2.2.2))))))))))
def waj:=shut wia
theorem wls:waj=wia:=vaj _
instance n91n_p (a0:ByteArray)(a1:Int):ParC (waj a0 a1):=by rw [wls];unfold wia;(try dsimp only);exact⟨((n114n_p _ _ _).p.bind fun y1=>((n114n_p _ _ _).p.bind fun y2=>((n114n_p _ _ _).p.bind fun y3=>((vbz (fun x=>(n91n_bp0 x).p) _ _).bind fun z4=>((n117n_p _ _ _ _).p.bind fun y5=>((n117n_p _ _ _ _).p.bind fun y6=>(vaf (vab _) ((n87n_p _).p.bind fun y7=>(vaf (vab _) ((n91n_jp5000017 _).p.bind fun z8=>(vab _)))))))))))⟩
def v6u (a0:dTxn)(k:Bool→Option Res):Option Res:=
 bif (a0.1==(0:Int))then
 bif (a0.2.1==(0:Int))then
 bif (a0.2.2.1==(0:Int))then
 bif (a0.2.2.2.1==(0:Int))then
 bif ((a0.2.2.2.2.1.length:Int)==(0:Int))then
 bif ((a0.2.2.2.2.2.1.length:Int)==(0:Int))then
 bif (!a0.2.2.2.2.2.2.1)then
 k (vap a0.2.2.2.2.2.2.2 (⟨#[]⟩:ByteArray))
 else
 k false
 else
 k false
 else
 k false
 else
 k false
 else
 k false
 else
 k false
 else
 k false
def vns:=shut v6u
theorem wb8:vns=v6u:=vaj _
instance n116n_p (a0:dTxn):ParC (vns a0):=by rw [wb8];unfold v6u;(try dsimp only);infer_instance
def v50 (a0:vfd)(k:Bool→Option Res):Option Res:=
 bif (a0.2.2.2.1==(0:Int))then
 bif (a0.2.2.2.2==(0:Int))then
 bif ((a0.1.length:Int)==(0:Int))then
 bif ((a0.2.1.length:Int)==(0:Int))then
 k ((a0.2.2.1.length:Int)==(0:Int))
 else
 k false
 else
 k false
 else
 k false
 else
 k false
def vug:=shut v50
theorem wbj:vug=v50:=vaj _
instance n115n_p (a0:vfd):ParC (vug a0):=by rw [wbj];unfold v50;(try dsimp only);infer_instance
def vck (x:q32T)(k:q32T→Option Res):Option Res:=
 let xh:=x.2.2.2.2.2.2.2.2
 let xhh:=xh.2.2.2.2.2.2.2.2
 bif (x.2.1==(4:Int))then
 vrl xh.2.2.2.2 (fun y30=>
 k (y30,x.2.1,x.2.2.1,x.2.2.2.1,x.2.2.2.2.1,x.2.2.2.2.2.1,x.2.2.2.2.2.2.1,x.2.2.2.2.2.2.2.1,xh.1,xh.2.1,xh.2.2.1,xh.2.2.2.1,xh.2.2.2.2.1,xh.2.2.2.2.2.1,xh.2.2.2.2.2.2.1,xh.2.2.2.2.2.2.2.1,xhh))
 else
 vug xh.2.2.2.2 (fun y31=>
 k (y31,x.2.1,x.2.2.1,x.2.2.2.1,x.2.2.2.2.1,x.2.2.2.2.2.1,x.2.2.2.2.2.2.1,x.2.2.2.2.2.2.2.1,xh.1,xh.2.1,xh.2.2.1,xh.2.2.2.1,xh.2.2.2.2.1,xh.2.2.2.2.2.1,xh.2.2.2.2.2.2.1,xh.2.2.2.2.2.2.2.1,xhh))
instance n96n_jp5000008 (x:q32T):ParC (vck x):=by unfold vck;(try dsimp only);infer_instance
def vaw (x:q32T)(k:q32T→Option Res):Option Res:=
 let xh:=x.2.2.2.2.2.2.2.2
 let xhh:=xh.2.2.2.2.2.2.2.2
 let t0:=(false,x.2.1,x.2.2.1,x.2.2.2.1,x.2.2.2.2.1,x.2.2.2.2.2.1,x.2.2.2.2.2.2.1,x.2.2.2.2.2.2.2.1,xh.1,xh.2.1,xh.2.2.1,xh.2.2.2.1,xh.2.2.2.2.1,xh.2.2.2.2.2.1,xh.2.2.2.2.2.2.1,xh.2.2.2.2.2.2.2.1,xhh)
 let t1:=(x.1,x.2.1,x.2.2.1,x.2.2.2.1,x.2.2.2.2.1,x.2.2.2.2.2.1,x.2.2.2.2.2.2.1,x.2.2.2.2.2.2.2.1,xh.1,xh.2.1,xh.2.2.1,xh.2.2.2.1,xh.2.2.2.2.1,xh.2.2.2.2.2.1,xh.2.2.2.2.2.2.1,xh.2.2.2.2.2.2.2.1,xhh)
 bif (x.2.1==(3:Int))then
 vjb xh.2.2.1 (fun y25=>
 bif (!y25)then
 k t0
 else
 bif (x.2.1 != (3:Int))then
 bif (!(vap xh.2.2.1 (⟨#[]⟩:ByteArray)))then
 k t0
 else
 bif xh.2.2.2.1 then
 k t0
 else
 vck t1 (fun z26=>
 let z26h:=z26.2.2.2.2.2.2.2.2
 k (z26.1,z26.2.1,z26.2.2.1,z26.2.2.2.1,z26.2.2.2.2.1,z26.2.2.2.2.2.1,z26.2.2.2.2.2.2.1,z26.2.2.2.2.2.2.2.1,z26h.1,z26h.2.1,z26h.2.2.1,z26h.2.2.2.1,z26h.2.2.2.2.1,z26h.2.2.2.2.2.1,z26h.2.2.2.2.2.2.1,z26h.2.2.2.2.2.2.2.1,z26h.2.2.2.2.2.2.2.2))
 else
 vck t1 (fun z27=>
 let z27h:=z27.2.2.2.2.2.2.2.2
 k (z27.1,z27.2.1,z27.2.2.1,z27.2.2.2.1,z27.2.2.2.2.1,z27.2.2.2.2.2.1,z27.2.2.2.2.2.2.1,z27.2.2.2.2.2.2.2.1,z27h.1,z27h.2.1,z27h.2.2.1,z27h.2.2.2.1,z27h.2.2.2.2.1,z27h.2.2.2.2.2.1,z27h.2.2.2.2.2.2.1,z27h.2.2.2.2.2.2.2.1,z27h.2.2.2.2.2.2.2.2)))
 else
 bif (x.2.1 != (3:Int))then
 bif (!(vap xh.2.2.1 (⟨#[]⟩:ByteArray)))then
 k t0
 else
 bif xh.2.2.2.1 then
 k t0
 else
 vck t1 (fun z28=>
 let z28h:=z28.2.2.2.2.2.2.2.2
 k (z28.1,z28.2.1,z28.2.2.1,z28.2.2.2.1,z28.2.2.2.2.1,z28.2.2.2.2.2.1,z28.2.2.2.2.2.2.1,z28.2.2.2.2.2.2.2.1,z28h.1,z28h.2.1,z28h.2.2.1,z28h.2.2.2.1,z28h.2.2.2.2.1,z28h.2.2.2.2.2.1,z28h.2.2.2.2.2.2.1,z28h.2.2.2.2.2.2.2.1,z28h.2.2.2.2.2.2.2.2))
 else
 vck t1 (fun z29=>
 let z29h:=z29.2.2.2.2.2.2.2.2
 k (z29.1,z29.2.1,z29.2.2.1,z29.2.2.2.1,z29.2.2.2.2.1,z29.2.2.2.2.2.1,z29.2.2.2.2.2.2.1,z29.2.2.2.2.2.2.2.1,z29h.1,z29h.2.1,z29h.2.2.1,z29h.2.2.2.1,z29h.2.2.2.2.1,z29h.2.2.2.2.2.1,z29h.2.2.2.2.2.2.1,z29h.2.2.2.2.2.2.2.1,z29h.2.2.2.2.2.2.2.2))
instance n96n_jp5000006 (x:q32T):ParC (vaw x):=by unfold vaw;(try dsimp only);exact⟨(vaf ((n89n_p _).p.bind fun y25=>(vaf (vab _) (vaf (vaf (vab _) (vaf (vab _) ((n96n_jp5000008 _).p.bind fun z26=>(vab _)))) ((n96n_jp5000008 _).p.bind fun z27=>(vab _))))) (vaf (vaf (vab _) (vaf (vab _) ((n96n_jp5000008 _).p.bind fun z28=>(vab _)))) ((n96n_jp5000008 _).p.bind fun z29=>(vab _))))⟩
def vdk (x:q26T)(k:(q26T⊕q32T)→Option Res):Option Res:=
 let xh:=x.2.2.2.2.2.2.2.2
 let xhh:=xh.2.2.2.2.2.2.2.2
 let t0:=(x.1,x.2.2.1,x.2.2.2.1,x.2.2.2.2.1,x.2.2.2.2.2.1,x.2.2.2.2.2.2.1,x.2.2.2.2.2.2.2.1,xh.1,xh.2.1,xh.2.2.1,xh.2.2.2.1,xh.2.2.2.2.1,xh.2.2.2.2.2.1,xh.2.2.2.2.2.2.1,xh.2.2.2.2.2.2.2.1,xhh.1,xhh.2)
 let t1:=(false,x.2.1,x.2.2.1,x.2.2.2.1,x.2.2.2.2.1,x.2.2.2.2.2.1,x.2.2.2.2.2.2.1,x.2.2.2.2.2.2.2.1,xh.1,xh.2.1,xh.2.2.1,xh.2.2.2.1,xh.2.2.2.2.1,xh.2.2.2.2.2.1,xh.2.2.2.2.2.2.1,xh.2.2.2.2.2.2.2.1,xhh.1,xhh.2)
 let t2:=(x.2.2.2.1,(x.2.2.2.2.1,(x.2.2.2.2.2.1,(x.2.2.2.2.2.2.1,(x.2.2.2.2.2.2.2.1,(xh.1,(xh.2.1,xh.2.2.1)))))))
 bif x.2.1 then
 vf2 t2 (fun y6=>
 bif (!y6)then
 k (.inl t1)
 else
 bif (!x.2.1)then
 vns t2 (fun y7=>
 bif (!y7)then
 k (.inl t1)
 else
 bif (x.2.2.1==(1:Int))then
 bif (x.2.2.2.2.1 != (3:Int))then
 k (.inl t1)
 else
 bif (x.2.2.1==(2:Int))then
 bif (x.2.2.2.2.1 != (2:Int))then
 k (.inl t1)
 else
 vaw t0 (fun z8=>
 let z8h:=z8.2.2.2.2.2.2.2.2
 k (.inr (z8.1,z8.2.1,z8.2.2.1,z8.2.2.2.1,z8.2.2.2.2.1,z8.2.2.2.2.2.1,z8.2.2.2.2.2.2.1,z8.2.2.2.2.2.2.2.1,z8h.1,z8h.2.1,z8h.2.2.1,z8h.2.2.2.1,z8h.2.2.2.2.1,z8h.2.2.2.2.2.1,z8h.2.2.2.2.2.2.1,z8h.2.2.2.2.2.2.2.1,z8h.2.2.2.2.2.2.2.2)))
 else
 vaw t0 (fun z9=>
 let z9h:=z9.2.2.2.2.2.2.2.2
 k (.inr (z9.1,z9.2.1,z9.2.2.1,z9.2.2.2.1,z9.2.2.2.2.1,z9.2.2.2.2.2.1,z9.2.2.2.2.2.2.1,z9.2.2.2.2.2.2.2.1,z9h.1,z9h.2.1,z9h.2.2.1,z9h.2.2.2.1,z9h.2.2.2.2.1,z9h.2.2.2.2.2.1,z9h.2.2.2.2.2.2.1,z9h.2.2.2.2.2.2.2.1,z9h.2.2.2.2.2.2.2.2)))
 else
 bif (x.2.2.1==(2:Int))then
 bif (x.2.2.2.2.1 != (2:Int))then
 k (.inl t1)
 else
 vaw t0 (fun z10=>
 let z10h:=z10.2.2.2.2.2.2.2.2
 k (.inr (z10.1,z10.2.1,z10.2.2.1,z10.2.2.2.1,z10.2.2.2.2.1,z10.2.2.2.2.2.1,z10.2.2.2.2.2.2.1,z10.2.2.2.2.2.2.2.1,z10h.1,z10h.2.1,z10h.2.2.1,z10h.2.2.2.1,z10h.2.2.2.2.1,z10h.2.2.2.2.2.1,z10h.2.2.2.2.2.2.1,z10h.2.2.2.2.2.2.2.1,z10h.2.2.2.2.2.2.2.2)))
 else
 vaw t0 (fun z11=>
 let z11h:=z11.2.2.2.2.2.2.2.2
 k (.inr (z11.1,z11.2.1,z11.2.2.1,z11.2.2.2.1,z11.2.2.2.2.1,z11.2.2.2.2.2.1,z11.2.2.2.2.2.2.1,z11.2.2.2.2.2.2.2.1,z11h.1,z11h.2.1,z11h.2.2.1,z11h.2.2.2.1,z11h.2.2.2.2.1,z11h.2.2.2.2.2.1,z11h.2.2.2.2.2.2.1,z11h.2.2.2.2.2.2.2.1,z11h.2.2.2.2.2.2.2.2))))
 else
 bif (x.2.2.1==(1:Int))then
 bif (x.2.2.2.2.1 != (3:Int))then
 k (.inl t1)
 else
 bif (x.2.2.1==(2:Int))then
 bif (x.2.2.2.2.1 != (2:Int))then
 k (.inl t1)
 else
 vaw t0 (fun z12=>
 let z12h:=z12.2.2.2.2.2.2.2.2
 k (.inr (z12.1,z12.2.1,z12.2.2.1,z12.2.2.2.1,z12.2.2.2.2.1,z12.2.2.2.2.2.1,z12.2.2.2.2.2.2.1,z12.2.2.2.2.2.2.2.1,z12h.1,z12h.2.1,z12h.2.2.1,z12h.2.2.2.1,z12h.2.2.2.2.1,z12h.2.2.2.2.2.1,z12h.2.2.2.2.2.2.1,z12h.2.2.2.2.2.2.2.1,z12h.2.2.2.2.2.2.2.2)))
 else
 vaw t0 (fun z13=>
 let z13h:=z13.2.2.2.2.2.2.2.2
 k (.inr (z13.1,z13.2.1,z13.2.2.1,z13.2.2.2.1,z13.2.2.2.2.1,z13.2.2.2.2.2.1,z13.2.2.2.2.2.2.1,z13.2.2.2.2.2.2.2.1,z13h.1,z13h.2.1,z13h.2.2.1,z13h.2.2.2.1,z13h.2.2.2.2.1,z13h.2.2.2.2.2.1,z13h.2.2.2.2.2.2.1,z13h.2.2.2.2.2.2.2.1,z13h.2.2.2.2.2.2.2.2)))
 else
 bif (x.2.2.1==(2:Int))then
 bif (x.2.2.2.2.1 != (2:Int))then
 k (.inl t1)
 else
 vaw t0 (fun z14=>
 let z14h:=z14.2.2.2.2.2.2.2.2
 k (.inr (z14.1,z14.2.1,z14.2.2.1,z14.2.2.2.1,z14.2.2.2.2.1,z14.2.2.2.2.2.1,z14.2.2.2.2.2.2.1,z14.2.2.2.2.2.2.2.1,z14h.1,z14h.2.1,z14h.2.2.1,z14h.2.2.2.1,z14h.2.2.2.2.1,z14h.2.2.2.2.2.1,z14h.2.2.2.2.2.2.1,z14h.2.2.2.2.2.2.2.1,z14h.2.2.2.2.2.2.2.2)))
 else
 vaw t0 (fun z15=>
 let z15h:=z15.2.2.2.2.2.2.2.2
 k (.inr (z15.1,z15.2.1,z15.2.2.1,z15.2.2.2.1,z15.2.2.2.2.1,z15.2.2.2.2.2.1,z15.2.2.2.2.2.2.1,z15.2.2.2.2.2.2.2.1,z15h.1,z15h.2.1,z15h.2.2.1,z15h.2.2.2.1,z15h.2.2.2.2.1,z15h.2.2.2.2.2.1,z15h.2.2.2.2.2.2.1,z15h.2.2.2.2.2.2.2.1,z15h.2.2.2.2.2.2.2.2))))
 else
 bif (!x.2.1)then
 vns t2 (fun y16=>
 bif (!y16)then
 k (.inl t1)
 else
 bif (x.2.2.1==(1:Int))then
 bif (x.2.2.2.2.1 != (3:Int))then
 k (.inl t1)
 else
 bif (x.2.2.1==(2:Int))then
 bif (x.2.2.2.2.1 != (2:Int))then
 k (.inl t1)
 else
 vaw t0 (fun z17=>
 let z17h:=z17.2.2.2.2.2.2.2.2
 k (.inr (z17.1,z17.2.1,z17.2.2.1,z17.2.2.2.1,z17.2.2.2.2.1,z17.2.2.2.2.2.1,z17.2.2.2.2.2.2.1,z17.2.2.2.2.2.2.2.1,z17h.1,z17h.2.1,z17h.2.2.1,z17h.2.2.2.1,z17h.2.2.2.2.1,z17h.2.2.2.2.2.1,z17h.2.2.2.2.2.2.1,z17h.2.2.2.2.2.2.2.1,z17h.2.2.2.2.2.2.2.2)))
 else
 vaw t0 (fun z18=>
 let z18h:=z18.2.2.2.2.2.2.2.2
 k (.inr (z18.1,z18.2.1,z18.2.2.1,z18.2.2.2.1,z18.2.2.2.2.1,z18.2.2.2.2.2.1,z18.2.2.2.2.2.2.1,z18.2.2.2.2.2.2.2.1,z18h.1,z18h.2.1,z18h.2.2.1,z18h.2.2.2.1,z18h.2.2.2.2.1,z18h.2.2.2.2.2.1,z18h.2.2.2.2.2.2.1,z18h.2.2.2.2.2.2.2.1,z18h.2.2.2.2.2.2.2.2)))
 else
 bif (x.2.2.1==(2:Int))then
 bif (x.2.2.2.2.1 != (2:Int))then
 k (.inl t1)
 else
 vaw t0 (fun z19=>
 let z19h:=z19.2.2.2.2.2.2.2.2
 k (.inr (z19.1,z19.2.1,z19.2.2.1,z19.2.2.2.1,z19.2.2.2.2.1,z19.2.2.2.2.2.1,z19.2.2.2.2.2.2.1,z19.2.2.2.2.2.2.2.1,z19h.1,z19h.2.1,z19h.2.2.1,z19h.2.2.2.1,z19h.2.2.2.2.1,z19h.2.2.2.2.2.1,z19h.2.2.2.2.2.2.1,z19h.2.2.2.2.2.2.2.1,z19h.2.2.2.2.2.2.2.2)))
 else
 vaw t0 (fun z20=>
 let z20h:=z20.2.2.2.2.2.2.2.2
 k (.inr (z20.1,z20.2.1,z20.2.2.1,z20.2.2.2.1,z20.2.2.2.2.1,z20.2.2.2.2.2.1,z20.2.2.2.2.2.2.1,z20.2.2.2.2.2.2.2.1,z20h.1,z20h.2.1,z20h.2.2.1,z20h.2.2.2.1,z20h.2.2.2.2.1,z20h.2.2.2.2.2.1,z20h.2.2.2.2.2.2.1,z20h.2.2.2.2.2.2.2.1,z20h.2.2.2.2.2.2.2.2))))
 else
 bif (x.2.2.1==(1:Int))then
 bif (x.2.2.2.2.1 != (3:Int))then
 k (.inl t1)
 else
 bif (x.2.2.1==(2:Int))then
 bif (x.2.2.2.2.1 != (2:Int))then
 k (.inl t1)
 else
 vaw t0 (fun z21=>
 let z21h:=z21.2.2.2.2.2.2.2.2
 k (.inr (z21.1,z21.2.1,z21.2.2.1,z21.2.2.2.1,z21.2.2.2.2.1,z21.2.2.2.2.2.1,z21.2.2.2.2.2.2.1,z21.2.2.2.2.2.2.2.1,z21h.1,z21h.2.1,z21h.2.2.1,z21h.2.2.2.1,z21h.2.2.2.2.1,z21h.2.2.2.2.2.1,z21h.2.2.2.2.2.2.1,z21h.2.2.2.2.2.2.2.1,z21h.2.2.2.2.2.2.2.2)))
 else
 vaw t0 (fun z22=>
 let z22h:=z22.2.2.2.2.2.2.2.2
 k (.inr (z22.1,z22.2.1,z22.2.2.1,z22.2.2.2.1,z22.2.2.2.2.1,z22.2.2.2.2.2.1,z22.2.2.2.2.2.2.1,z22.2.2.2.2.2.2.2.1,z22h.1,z22h.2.1,z22h.2.2.1,z22h.2.2.2.1,z22h.2.2.2.2.1,z22h.2.2.2.2.2.1,z22h.2.2.2.2.2.2.1,z22h.2.2.2.2.2.2.2.1,z22h.2.2.2.2.2.2.2.2)))
 else
 bif (x.2.2.1==(2:Int))then
 bif (x.2.2.2.2.1 != (2:Int))then
 k (.inl t1)
 else
 vaw t0 (fun z23=>
 let z23h:=z23.2.2.2.2.2.2.2.2
 k (.inr (z23.1,z23.2.1,z23.2.2.1,z23.2.2.2.1,z23.2.2.2.2.1,z23.2.2.2.2.2.1,z23.2.2.2.2.2.2.1,z23.2.2.2.2.2.2.2.1,z23h.1,z23h.2.1,z23h.2.2.1,z23h.2.2.2.1,z23h.2.2.2.2.1,z23h.2.2.2.2.2.1,z23h.2.2.2.2.2.2.1,z23h.2.2.2.2.2.2.2.1,z23h.2.2.2.2.2.2.2.2)))
 else
 vaw t0 (fun z24=>
 let z24h:=z24.2.2.2.2.2.2.2.2
 k (.inr (z24.1,z24.2.1,z24.2.2.1,z24.2.2.2.1,z24.2.2.2.2.1,z24.2.2.2.2.2.1,z24.2.2.2.2.2.2.1,z24.2.2.2.2.2.2.2.1,z24h.1,z24h.2.1,z24h.2.2.1,z24h.2.2.2.1,z24h.2.2.2.2.1,z24h.2.2.2.2.2.1,z24h.2.2.2.2.2.2.1,z24h.2.2.2.2.2.2.2.1,z24h.2.2.2.2.2.2.2.2)))
instance n96n_jp5000004 (x:q26T):ParC (vdk x):=by unfold vdk;(try dsimp only);exact⟨(vaf ((n101n_p _).p.bind fun y6=>(vaf (vab _) (vaf ((n116n_p _).p.bind fun y7=>(vaf (vab _) (vaf (vaf (vab _) (vaf (vaf (vab _) ((n96n_jp5000006 _).p.bind fun z8=>(vab _))) ((n96n_jp5000006 _).p.bind fun z9=>(vab _)))) (vaf (vaf (vab _) ((n96n_jp5000006 _).p.bind fun z10=>(vab _))) ((n96n_jp5000006 _).p.bind fun z11=>(vab _)))))) (vaf (vaf (vab _) (vaf (vaf (vab _) ((n96n_jp5000006 _).p.bind fun z12=>(vab _))) ((n96n_jp5000006 _).p.bind fun z13=>(vab _)))) (vaf (vaf (vab _) ((n96n_jp5000006 _).p.bind fun z14=>(vab _))) ((n96n_jp5000006 _).p.bind fun z15=>(vab _))))))) (vaf ((n116n_p _).p.bind fun y16=>(vaf (vab _) (vaf (vaf (vab _) (vaf (vaf (vab _) ((n96n_jp5000006 _).p.bind fun z17=>(vab _))) ((n96n_jp5000006 _).p.bind fun z18=>(vab _)))) (vaf (vaf (vab _) ((n96n_jp5000006 _).p.bind fun z19=>(vab _))) ((n96n_jp5000006 _).p.bind fun z20=>(vab _)))))) (vaf (vaf (vab _) (vaf (vaf (vab _) ((n96n_jp5000006 _).p.bind fun z21=>(vab _))) ((n96n_jp5000006 _).p.bind fun z22=>(vab _)))) (vaf (vaf (vab _) ((n96n_jp5000006 _).p.bind fun z23=>(vab _))) ((n96n_jp5000006 _).p.bind fun z24=>(vab _))))))⟩
def wgd (a0:vcd)(k:Bool→Option Res):Option Res:=
 vci a0.1 (1:Int) (4:Int) (fun y1=>
 bif (!y1)then
 k false
 else
 bif (a0.1==(1:Int))then
 vdk (false,true,a0.1,a0.2.1.1,a0.2.1.2.1,a0.2.1.2.2.1,a0.2.1.2.2.2.1,a0.2.1.2.2.2.2.1,a0.2.1.2.2.2.2.2.1,a0.2.1.2.2.2.2.2.2.1,a0.2.1.2.2.2.2.2.2.2,a0.2.2.1,a0.2.2.2.1,a0.2.2.2.2.1,a0.2.2.2.2.2.1,a0.2.2.2.2.2.2.1,a0.2.2.2.2.2.2.2.1,a0.2.2.2.2.2.2.2.2) (Sum.elim (fun z2=>
 k z2.1) (fun z3=>
 k z3.1))
 else
 vdk (false,(a0.1==(2:Int)),a0.1,a0.2.1.1,a0.2.1.2.1,a0.2.1.2.2.1,a0.2.1.2.2.2.1,a0.2.1.2.2.2.2.1,a0.2.1.2.2.2.2.2.1,a0.2.1.2.2.2.2.2.2.1,a0.2.1.2.2.2.2.2.2.2,a0.2.2.1,a0.2.2.2.1,a0.2.2.2.2.1,a0.2.2.2.2.2.1,a0.2.2.2.2.2.2.1,a0.2.2.2.2.2.2.2.1,a0.2.2.2.2.2.2.2.2) (Sum.elim (fun z4=>
 k z4.1) (fun z5=>
 k z5.1)))
def v25:=shut wgd
theorem wmb:v25=wgd:=vaj _
instance n96n_p (a0:vcd):ParC (v25 a0):=by rw [wmb];unfold wgd;(try dsimp only);infer_instance
def v7q (a0:ByteArray)(k:ByteArray→Option Res):Option Res:=
 vb2 (a0.size:Int) (fun y1=>
 if y1.size+a0.size≤1099511627776 then
 k (y1++a0)
 else none)
def vdi:=shut v7q
theorem wcy:vdi=v7q:=vaj _
instance n113n_p (a0:ByteArray):ParC (vdi a0):=by rw [wcy];unfold v7q;(try dsimp only);infer_instance
def wb4 (a0:Bool)(k:ByteArray→Option Res):Option Res:=
 bif a0 then
 k (⟨#[1]⟩:ByteArray)
 else
 k (⟨#[0]⟩:ByteArray)
def vio:=shut wb4
theorem wc9:vio=wb4:=vaj _
instance n110n_p (a0:Bool):ParC (vio a0):=by rw [wc9];unfold wb4;(try dsimp only);infer_instance
def wgg (a0:ByteArray)(k:(ByteArray×Bool)→Option Res):Option Res:=
 bif (decide ((a0.size:Int)>(20000:Int)))then
 k ((⟨#[]⟩:ByteArray),false)
 else
 vuy a0 (fun y1=>
 vrz y1 (fun y2=>
 if a0.size+y2.size≤1099511627776 then
 k ((a0++y2),true)
 else none))
def vw6:=shut wgg
theorem wm1:vw6=wgg:=vaj _
instance n98n_p (a0:ByteArray):ParC (vw6 a0):=by rw [wm1];unfold wgg;(try dsimp only);infer_instance
def vi6 (x:q54T)(k:q54T⊕q54T→Option Res):Option Res:=
 let xh:=x.2.2.2.2.2.2.2.2
 bif (decide (x.2.1<(x.2.2.2.2.2.2.1.length:Int)))then
 if 0≤x.2.1∧x.2.1<(x.2.2.2.2.2.2.1.length:Int)then
 if 0≤x.2.1∧x.2.1<(x.2.2.2.2.2.2.1.length:Int)then
 vdi ((rd (Ty.zero tRange) x.2.2.2.2.2.2.1 x.2.1).1) (fun y12=>
 if x.1.size+y12.size≤1099511627776 then
 vdi ((rd (Ty.zero tRange) x.2.2.2.2.2.2.1 x.2.1).2) (fun y13=>
 if(x.1++y12).size+y13.size≤1099511627776 then
 k (.inl (((x.1++y12)++y13),(IntKind.wrap .i64 (x.2.1+1)),x.2.2.1,x.2.2.2.1,x.2.2.2.2.1,x.2.2.2.2.2.1,x.2.2.2.2.2.2.1,x.2.2.2.2.2.2.2.1,xh.1,xh.2))
 else none)
 else none)
 else none
 else none
 else
 k (.inr (x.1,x.2.1,x.2.2.1,x.2.2.2.1,x.2.2.2.2.1,x.2.2.2.2.2.1,x.2.2.2.2.2.2.1,x.2.2.2.2.2.2.2.1,xh.1,xh.2))
instance n102n_bp0 (x:q54T):ParC (vi6 x):=by unfold vi6;(try dsimp only);infer_instance
def vjl (x:q54T)(k:q54T⊕q54T→Option Res):Option Res:=
 let xh:=x.2.2.2.2.2.2.2.2
 let t0:=(rd (Ty.zero tWrite) x.2.2.2.2.2.2.2.1 x.2.1)
 bif (decide (x.2.1<(x.2.2.2.2.2.2.2.1.length:Int)))then
 if 0≤x.2.1∧x.2.1<(x.2.2.2.2.2.2.2.1.length:Int)then
 if 0≤x.2.1∧x.2.1<(x.2.2.2.2.2.2.2.1.length:Int)then
 if 0≤x.2.1∧x.2.1<(x.2.2.2.2.2.2.2.1.length:Int)then
 vdi (t0.1) (fun y14=>
 if x.1.size+y14.size≤1099511627776 then
 vdi (t0.2.1) (fun y15=>
 if(x.1++y14).size+y15.size≤1099511627776 then
 vio (t0.2.2) (fun y16=>
 if((x.1++y14)++y15).size+y16.size≤1099511627776 then
 k (.inl ((((x.1++y14)++y15)++y16),(IntKind.wrap .i64 (x.2.1+1)),x.2.2.1,x.2.2.2.1,x.2.2.2.2.1,x.2.2.2.2.2.1,x.2.2.2.2.2.2.1,x.2.2.2.2.2.2.2.1,xh.1,xh.2))
 else none)
 else none)
 else none)
 else none
 else none
 else none
 else
 k (.inr (x.1,x.2.1,x.2.2.1,x.2.2.2.1,x.2.2.2.2.1,x.2.2.2.2.2.1,x.2.2.2.2.2.2.1,x.2.2.2.2.2.2.2.1,xh.1,xh.2))
instance n102n_bp2 (x:q54T):ParC (vjl x):=by unfold vjl;(try dsimp only);infer_instance
def v56 (a0:dTxn)(k:(ByteArray×Bool)→Option Res):Option Res:=
 vf2 a0 (fun y1=>
 bif (!y1)then
 k ((⟨#[]⟩:ByteArray),false)
 else
 vb2 a0.1 (fun y2=>
 vb2 a0.2.1 (fun y3=>
 if y2.size+y3.size≤1099511627776 then
 vb2 a0.2.2.1 (fun y4=>
 if(y2++y3).size+y4.size≤1099511627776 then
 vb2 a0.2.2.2.1 (fun y5=>
 if((y2++y3)++y4).size+y5.size≤1099511627776 then
 vb2 (a0.2.2.2.2.1.length:Int) (fun y6=>
 if(((y2++y3)++y4)++y5).size+y6.size≤1099511627776 then
 vae vi6 Fuel (((((y2++y3)++y4)++y5)++y6),0,a0.1,a0.2.1,a0.2.2.1,a0.2.2.2.1,a0.2.2.2.2.1,a0.2.2.2.2.2.1,a0.2.2.2.2.2.2.1,a0.2.2.2.2.2.2.2) (fun z7=>
 let z7h:=z7.2.2.2.2.2.2.2.2
 vb2 (z7.2.2.2.2.2.2.2.1.length:Int) (fun y8=>
 if z7.1.size+y8.size≤1099511627776 then
 vae vjl Fuel ((z7.1++y8),0,z7.2.2.1,z7.2.2.2.1,z7.2.2.2.2.1,z7.2.2.2.2.2.1,z7.2.2.2.2.2.2.1,z7.2.2.2.2.2.2.2.1,z7h.1,z7h.2) (fun z9=>
 let z9h:=z9.2.2.2.2.2.2.2.2
 vio z9h.1 (fun y10=>
 if z9.1.size+y10.size≤1099511627776 then
 vdi z9h.2 (fun y11=>
 if(z9.1++y10).size+y11.size≤1099511627776 then
 k (((z9.1++y10)++y11),true)
 else none)
 else none))
 else none))
 else none)
 else none)
 else none)
 else none)))
def vnt:=shut v56
theorem wez:vnt=v56:=vaj _
instance n102n_p (a0:dTxn):ParC (vnt a0):=by rw [wez];unfold v56;(try dsimp only);exact⟨((n101n_p _).p.bind fun y1=>(vaf (vab _) ((n108n_p _).p.bind fun y2=>((n108n_p _).p.bind fun y3=>(vbo ((n108n_p _).p.bind fun y4=>(vbo ((n108n_p _).p.bind fun y5=>(vbo ((n108n_p _).p.bind fun y6=>(vbo ((vbz (fun x=>(n102n_bp0 x).p) _ _).bind fun z7=>((n108n_p _).p.bind fun y8=>(vbo ((vbz (fun x=>(n102n_bp2 x).p) _ _).bind fun z9=>((n110n_p _).p.bind fun y10=>(vbo ((n113n_p _).p.bind fun y11=>(vbo (vab _) va5)) va5))) va5))) va5)) va5)) va5)) va5)))))⟩
def vi8 (x:q8T)(k:q8T⊕q8T→Option Res):Option Res:=
 bif (decide (x.2.2<(x.1.length:Int)))then
 if 0≤x.2.2∧x.2.2<(x.1.length:Int)then
 vnt (rd (Ty.zero tTxn) x.1 x.2.2) (fun y3=>
 if x.2.1.size+y3.1.size≤1099511627776 then
 k (.inl (x.1,(x.2.1++y3.1),(IntKind.wrap .i64 (x.2.2+1))))
 else none)
 else none
 else
 k (.inr (x.1,x.2.1,x.2.2))
instance n118n_bp0 (x:q8T):ParC (vi8 x):=by unfold vi8;(try dsimp only);infer_instance
def v59 (a0:(List dTxn))(k:ByteArray→Option Res):Option Res:=
 vb2 (a0.length:Int) (fun y1=>
 vae vi8 Fuel (a0,y1,0) (fun z2=>
 k z2.2.1))
def vnj:=shut v59
theorem wb9:vnj=v59:=vaj _
instance n118n_p (a0:(List dTxn)):ParC (vnj a0):=by rw [wb9];unfold v59;(try dsimp only);infer_instance
def voj (x:q45T)(k:q45T⊕q45T→Option Res):Option Res:=
 bif (decide (x.2.1<(x.2.2.1.length:Int)))then
 if 0≤x.2.1∧x.2.1<(x.2.2.1.length:Int)then
 vdi ((rd (Ty.zero tVersion) x.2.2.1 x.2.1).1) (fun y8=>
 if x.1.size+y8.size≤1099511627776 then
 vdi ((rd (Ty.zero tVersion) x.2.2.1 x.2.1).2.1) (fun y9=>
 if(x.1++y8).size+y9.size≤1099511627776 then
 vio ((rd (Ty.zero tVersion) x.2.2.1 x.2.1).2.2.1) (fun y10=>
 if((x.1++y8)++y9).size+y10.size≤1099511627776 then
 vb2 ((rd (Ty.zero tVersion) x.2.2.1 x.2.1).2.2.2) (fun y11=>
 if(((x.1++y8)++y9)++y10).size+y11.size≤1099511627776 then
 k (.inl (((((x.1++y8)++y9)++y10)++y11),(IntKind.wrap .i64 (x.2.1+1)),x.2.2.1,x.2.2.2.1,x.2.2.2.2.1,x.2.2.2.2.2.1,x.2.2.2.2.2.2))
 else none)
 else none)
 else none)
 else none)
 else none
 else
 k (.inr (x.1,x.2.1,x.2.2.1,x.2.2.2.1,x.2.2.2.2.1,x.2.2.2.2.2.1,x.2.2.2.2.2.2))
instance n88n_bp0 (x:q45T):ParC (voj x):=by unfold voj;(try dsimp only);infer_instance
def whj (a0:vfd)(k:(ByteArray×Bool)→Option Res):Option Res:=
 vrl a0 (fun y1=>
 bif (!y1)then
 k ((⟨#[]⟩:ByteArray),false)
 else
 vb2 a0.2.2.2.1 (fun y2=>
 vb2 a0.2.2.2.2 (fun y3=>
 if y2.size+y3.size≤1099511627776 then
 vb2 (a0.1.length:Int) (fun y4=>
 if(y2++y3).size+y4.size≤1099511627776 then
 vae voj Fuel (((y2++y3)++y4),0,a0.1,a0.2.1,a0.2.2.1,a0.2.2.2.1,a0.2.2.2.2) (fun z5=>
 vnj z5.2.2.2.1 (fun y6=>
 if z5.1.size+y6.size≤1099511627776 then
 vnj z5.2.2.2.2.1 (fun y7=>
 if(z5.1++y6).size+y7.size≤1099511627776 then
 k (((z5.1++y6)++y7),true)
 else none)
 else none))
 else none)
 else none)))
def v46:=shut whj
theorem wm5:v46=whj:=vaj _
instance n88n_p (a0:vfd):ParC (v46 a0):=by rw [wm5];unfold whj;(try dsimp only);exact⟨((n87n_p _).p.bind fun y1=>(vaf (vab _) ((n108n_p _).p.bind fun y2=>((n108n_p _).p.bind fun y3=>(vbo ((n108n_p _).p.bind fun y4=>(vbo ((vbz (fun x=>(n88n_bp0 x).p) _ _).bind fun z5=>((n118n_p _).p.bind fun y6=>(vbo ((n118n_p _).p.bind fun y7=>(vbo (vab _) va5)) va5))) va5)) va5)))))⟩
def wg5 (a0:vcd)(k:(ByteArray×Bool)→Option Res):Option Res:=
 v25 a0 (fun y1=>
 bif (!y1)then
 k ((⟨#[]⟩:ByteArray),false)
 else
 bif (a0.1==(3:Int))then
 vdi a0.2.2.1 (fun y2=>
 if(van [(IntKind.wrap .u8 a0.1)]).size+y2.size≤1099511627776 then
 vio a0.2.2.2.1 (fun y3=>
 if((van [(IntKind.wrap .u8 a0.1)])++y2).size+y3.size≤1099511627776 then
 vw6 (((van [(IntKind.wrap .u8 a0.1)])++y2)++y3) (fun y4=>
 k (y4.1,y4.2))
 else none)
 else none)
 else
 bif (a0.1==(4:Int))then
 v46 a0.2.2.2.2 (fun y5=>
 if(van [(IntKind.wrap .u8 a0.1)]).size+y5.1.size≤1099511627776 then
 vw6 ((van [(IntKind.wrap .u8 a0.1)])++y5.1) (fun y6=>
 k (y6.1,y6.2))
 else none)
 else
 vnt a0.2.1 (fun y7=>
 if(van [(IntKind.wrap .u8 a0.1)]).size+y7.1.size≤1099511627776 then
 vw6 ((van [(IntKind.wrap .u8 a0.1)])++y7.1) (fun y8=>
 k (y8.1,y8.2))
 else none))
def vx4:=shut wg5
theorem wlm:vx4=wg5:=vaj _
instance n97n_p (a0:vcd):ParC (vx4 a0):=by rw [wlm];unfold wg5;(try dsimp only);exact⟨((n96n_p _).p.bind fun y1=>(vaf (vab _) (vaf ((n113n_p _).p.bind fun y2=>(vbo ((n110n_p _).p.bind fun y3=>(vbo ((n98n_p _).p.bind fun y4=>(vab _)) va5)) va5)) (vaf ((n88n_p _).p.bind fun y5=>(vbo ((n98n_p _).p.bind fun y6=>(vab _)) va5)) ((n102n_p _).p.bind fun y7=>(vbo ((n98n_p _).p.bind fun y8=>(vab _)) va5))))))⟩
def vbl (x:(q40T⊕q40T))(k:(q40T⊕(q41T⊕(q40T⊕q41T)))→Option Res):Option Res:=
 (Sum.elim (fun x=>
 let xh:=x.2.2.2.2.2.2.2.2
 let xhh:=xh.2.2.2.2.2.2.2.2
 let xhhh:=xhh.2.2.2.2.2.2.2.2
 let xhhhh:=xhhh.2.2.2.2.2.2.2.2
 let t0:=(x.1,false,(0:Int),(0:Int),(0:Int),(0:Int),(0:Int),false,(⟨#[]⟩:ByteArray),(⟨#[]⟩:ByteArray),false,(0:Int),(0:Int),xh.2.2.2.2.2.1,xh.2.2.2.2.2.2.1,xh.2.2.2.2.2.2.2.1,xhh.1,xhh.2.1,xhh.2.2.1,xhh.2.2.2.1,xhh.2.2.2.2.1,xhh.2.2.2.2.2.1,xhh.2.2.2.2.2.2.1,xhh.2.2.2.2.2.2.2.1,([]:List vai),([]:List vag),([]:List vaa),([]:List dTxn),([]:List dTxn),xhhh.2.2.2.2.2.1,xhhh.2.2.2.2.2.2.1,xhhh.2.2.2.2.2.2.2.1,xhhhh.1,xhhhh.2)
 vx4 (xh.2.2.2.2.2.1,((xh.2.2.2.2.2.2.1,(xh.2.2.2.2.2.2.2.1,(xhh.1,(xhh.2.1,(xhhh.2.2.2.2.2.1,(xhhh.2.2.2.2.2.2.1,(xhh.2.2.1,xhh.2.2.2.1))))))),(xhh.2.2.2.2.1,(xhh.2.2.2.2.2.1,(xhhh.2.2.2.2.2.2.2.1,(xhhhh.1,(xhhhh.2,(xhh.2.2.2.2.2.2.1,xhh.2.2.2.2.2.2.2.1)))))))) (fun y25=>
 bif (!y25.2)then
 k (.inl t0)
 else
 bif (!(vap y25.1 x.1))then
 k (.inl t0)
 else
 k (.inr (.inl (x.1,true,xh.2.2.2.2.2.1,xh.2.2.2.2.2.2.1,xh.2.2.2.2.2.2.2.1,xhh.1,xhh.2.1,xhh.2.2.1,xhh.2.2.2.1,xhh.2.2.2.2.1,xhh.2.2.2.2.2.1,xhh.2.2.2.2.2.2.1,xhh.2.2.2.2.2.2.2.1,xh.2.2.2.2.2.1,xh.2.2.2.2.2.2.1,xh.2.2.2.2.2.2.2.1,xhh.1,xhh.2.1,xhh.2.2.1,xhh.2.2.2.1,xhh.2.2.2.2.1,xhh.2.2.2.2.2.1,xhh.2.2.2.2.2.2.1,xhh.2.2.2.2.2.2.2.1,xhhh.2.2.2.2.2.1,xhhh.2.2.2.2.2.2.1,xhhh.2.2.2.2.2.2.2.1,xhhhh.1,xhhhh.2))))) (fun x=>
 let xh:=x.2.2.2.2.2.2.2.2
 let xhh:=xh.2.2.2.2.2.2.2.2
 let xhhh:=xhh.2.2.2.2.2.2.2.2
 let xhhhh:=xhhh.2.2.2.2.2.2.2.2
 let t0:=(x.1,false,(0:Int),(0:Int),(0:Int),(0:Int),(0:Int),false,(⟨#[]⟩:ByteArray),(⟨#[]⟩:ByteArray),false,(0:Int),(0:Int),xh.2.2.2.2.2.1,xh.2.2.2.2.2.2.1,xh.2.2.2.2.2.2.2.1,xhh.1,xhh.2.1,xhh.2.2.1,xhh.2.2.2.1,xhh.2.2.2.2.1,xhh.2.2.2.2.2.1,xhh.2.2.2.2.2.2.1,xhh.2.2.2.2.2.2.2.1,([]:List vai),([]:List vag),([]:List vaa),([]:List dTxn),([]:List dTxn),xhhh.2.2.2.2.2.1,xhhh.2.2.2.2.2.2.1,xhhh.2.2.2.2.2.2.2.1,xhhhh.1,xhhhh.2)
 vx4 (xh.2.2.2.2.2.1,((xh.2.2.2.2.2.2.1,(xh.2.2.2.2.2.2.2.1,(xhh.1,(xhh.2.1,(xhhh.2.2.2.2.2.1,(xhhh.2.2.2.2.2.2.1,(xhh.2.2.1,xhh.2.2.2.1))))))),(xhh.2.2.2.2.1,(xhh.2.2.2.2.2.1,(xhhh.2.2.2.2.2.2.2.1,(xhhhh.1,(xhhhh.2,(xhh.2.2.2.2.2.2.1,xhh.2.2.2.2.2.2.2.1)))))))) (fun y26=>
 bif (!y26.2)then
 k (.inr (.inr (.inl t0)))
 else
 bif (!(vap y26.1 x.1))then
 k (.inr (.inr (.inl t0)))
 else
 k (.inr (.inr (.inr (x.1,true,xh.2.2.2.2.2.1,xh.2.2.2.2.2.2.1,xh.2.2.2.2.2.2.2.1,xhh.1,xhh.2.1,xhh.2.2.1,xhh.2.2.2.1,xhh.2.2.2.2.1,xhh.2.2.2.2.2.1,xhh.2.2.2.2.2.2.1,xhh.2.2.2.2.2.2.2.1,xh.2.2.2.2.2.1,xh.2.2.2.2.2.2.1,xh.2.2.2.2.2.2.2.1,xhh.1,xhh.2.1,xhh.2.2.1,xhh.2.2.2.1,xhh.2.2.2.2.1,xhh.2.2.2.2.2.1,xhh.2.2.2.2.2.2.1,xhh.2.2.2.2.2.2.2.1,xhhh.2.2.2.2.2.1,xhhh.2.2.2.2.2.2.1,xhhh.2.2.2.2.2.2.2.1,xhhhh.1,xhhhh.2))))))) x
instance n92n_jp5000013 (x:(q40T⊕q40T)):ParC (vbl x):=by
 unfold vbl
 rcases x with x|x
 ·simp only [Sum.elim_inl]
  infer_instance
 ·simp only [Sum.elim_inr]
  (try dsimp only)
  infer_instance
def vfj (x:q38T)(k:(q39T⊕q39T)→Option Res):Option Res:=
 let xh:=x.2.2.2.2.2.2.2.2
 let xhh:=xh.2.2.2.2.2.2.2.2
 let t0:=(IntKind.wrap .i64 (bt x.2.2.1 (0:Int)))
 if 0≤(0:Int)∧(0:Int)<(x.2.2.1.size:Int)then
 bif (t0==(3:Int))then
 vg7 x.2.2.1 (1:Int) false (fun y4=>
 vop y4.2.1 y4.2.2.1 y4.2.2.2 (fun y5=>
 vbl (.inl (x.1,x.2.1,x.2.2.2.1,x.2.2.2.2.1,x.2.2.2.2.2.1,x.2.2.2.2.2.2.1,x.2.2.2.2.2.2.2.1,xh.1,xh.2.1,xh.2.2.1,xh.2.2.2.1,xh.2.2.2.2.1,xh.2.2.2.2.2.1,t0,0,0,0,0,false,(⟨#[]⟩:ByteArray),y4.1,y5.1,0,0,xh.2.2.2.2.2.2.1,xh.2.2.2.2.2.2.2.1,xhh.1,xhh.2.1,xhh.2.2,([]:List vai),([]:List vag),([]:List vaa),([]:List dTxn),([]:List dTxn))) (Sum.elim (fun z6=>
 let z6h:=z6.2.2.2.2.2.2.2.2
 let z6hh:=z6h.2.2.2.2.2.2.2.2
 let z6hhh:=z6hh.2.2.2.2.2.2.2.2
 k (.inl (z6.1,z6.2.1,z6.2.2.1,z6.2.2.2.1,z6.2.2.2.2.1,z6.2.2.2.2.2.1,z6.2.2.2.2.2.2.1,z6.2.2.2.2.2.2.2.1,z6h.1,z6h.2.1,z6h.2.2.1,z6h.2.2.2.1,z6h.2.2.2.2.1,z6hhh.1,z6hhh.2.1,z6hhh.2.2.1,z6hhh.2.2.2.1,z6hhh.2.2.2.2.1))) (Sum.elim (fun z7=>
 let z7h:=z7.2.2.2.2.2.2.2.2
 let z7hh:=z7h.2.2.2.2.2.2.2.2
 let z7hhh:=z7hh.2.2.2.2.2.2.2.2
 k (.inl (z7.1,z7.2.1,z7.2.2.1,z7.2.2.2.1,z7.2.2.2.2.1,z7.2.2.2.2.2.1,z7.2.2.2.2.2.2.1,z7.2.2.2.2.2.2.2.1,z7h.1,z7h.2.1,z7h.2.2.1,z7h.2.2.2.1,z7h.2.2.2.2.1,z7hhh.1,z7hhh.2.1,z7hhh.2.2.1,z7hhh.2.2.2.1,z7hhh.2.2.2.2))) (Sum.elim (fun z8=>
 let z8h:=z8.2.2.2.2.2.2.2.2
 let z8hh:=z8h.2.2.2.2.2.2.2.2
 let z8hhh:=z8hh.2.2.2.2.2.2.2.2
 k (.inl (z8.1,z8.2.1,z8.2.2.1,z8.2.2.2.1,z8.2.2.2.2.1,z8.2.2.2.2.2.1,z8.2.2.2.2.2.2.1,z8.2.2.2.2.2.2.2.1,z8h.1,z8h.2.1,z8h.2.2.1,z8h.2.2.2.1,z8h.2.2.2.2.1,z8hhh.1,z8hhh.2.1,z8hhh.2.2.1,z8hhh.2.2.2.1,z8hhh.2.2.2.2.1))) (fun z9=>
 let z9h:=z9.2.2.2.2.2.2.2.2
 let z9hh:=z9h.2.2.2.2.2.2.2.2
 let z9hhh:=z9hh.2.2.2.2.2.2.2.2
 k (.inr (z9.1,z9.2.1,z9.2.2.1,z9.2.2.2.1,z9.2.2.2.2.1,z9.2.2.2.2.2.1,z9.2.2.2.2.2.2.1,z9.2.2.2.2.2.2.2.1,z9h.1,z9h.2.1,z9h.2.2.1,z9h.2.2.2.1,z9h.2.2.2.2.1,z9hhh.1,z9hhh.2.1,z9hhh.2.2.1,z9hhh.2.2.2.1,z9hhh.2.2.2.2))))))))
 else
 bif (t0==(4:Int))then
 waj x.2.2.1 (1:Int) (Sum.elim (fun y10=>
 vbl (.inl (x.1,x.2.1,x.2.2.2.1,x.2.2.2.2.1,x.2.2.2.2.2.1,x.2.2.2.2.2.2.1,x.2.2.2.2.2.2.2.1,xh.1,xh.2.1,xh.2.2.1,xh.2.2.2.1,xh.2.2.2.2.1,xh.2.2.2.2.2.1,t0,0,0,0,0,false,(⟨#[]⟩:ByteArray),(⟨#[]⟩:ByteArray),false,y10.1,y10.2.1,xh.2.2.2.2.2.2.1,xh.2.2.2.2.2.2.2.1,xhh.1,xhh.2.1,xhh.2.2,([]:List vai),([]:List vag),y10.2.2.2.2.1,y10.2.2.2.2.2.1,y10.2.2.2.2.2.2)) (Sum.elim (fun z11=>
 let z11h:=z11.2.2.2.2.2.2.2.2
 let z11hh:=z11h.2.2.2.2.2.2.2.2
 let z11hhh:=z11hh.2.2.2.2.2.2.2.2
 k (.inl (z11.1,z11.2.1,z11.2.2.1,z11.2.2.2.1,z11.2.2.2.2.1,z11.2.2.2.2.2.1,z11.2.2.2.2.2.2.1,z11.2.2.2.2.2.2.2.1,z11h.1,z11h.2.1,z11h.2.2.1,z11h.2.2.2.1,z11h.2.2.2.2.1,z11hhh.1,z11hhh.2.1,z11hhh.2.2.1,z11hhh.2.2.2.1,z11hhh.2.2.2.2.1))) (Sum.elim (fun z12=>
 let z12h:=z12.2.2.2.2.2.2.2.2
 let z12hh:=z12h.2.2.2.2.2.2.2.2
 let z12hhh:=z12hh.2.2.2.2.2.2.2.2
 k (.inl (z12.1,z12.2.1,z12.2.2.1,z12.2.2.2.1,z12.2.2.2.2.1,z12.2.2.2.2.2.1,z12.2.2.2.2.2.2.1,z12.2.2.2.2.2.2.2.1,z12h.1,z12h.2.1,z12h.2.2.1,z12h.2.2.2.1,z12h.2.2.2.2.1,z12hhh.1,z12hhh.2.1,z12hhh.2.2.1,z12hhh.2.2.2.1,z12hhh.2.2.2.2))) (Sum.elim (fun z13=>
 let z13h:=z13.2.2.2.2.2.2.2.2
 let z13hh:=z13h.2.2.2.2.2.2.2.2
 let z13hhh:=z13hh.2.2.2.2.2.2.2.2
 k (.inl (z13.1,z13.2.1,z13.2.2.1,z13.2.2.2.1,z13.2.2.2.2.1,z13.2.2.2.2.2.1,z13.2.2.2.2.2.2.1,z13.2.2.2.2.2.2.2.1,z13h.1,z13h.2.1,z13h.2.2.1,z13h.2.2.2.1,z13h.2.2.2.2.1,z13hhh.1,z13hhh.2.1,z13hhh.2.2.1,z13hhh.2.2.2.1,z13hhh.2.2.2.2.1))) (fun z14=>
 let z14h:=z14.2.2.2.2.2.2.2.2
 let z14hh:=z14h.2.2.2.2.2.2.2.2
 let z14hhh:=z14hh.2.2.2.2.2.2.2.2
 k (.inr (z14.1,z14.2.1,z14.2.2.1,z14.2.2.2.1,z14.2.2.2.2.1,z14.2.2.2.2.2.1,z14.2.2.2.2.2.2.1,z14.2.2.2.2.2.2.2.1,z14h.1,z14h.2.1,z14h.2.2.1,z14h.2.2.2.1,z14h.2.2.2.2.1,z14hhh.1,z14hhh.2.1,z14hhh.2.2.1,z14hhh.2.2.2.1,z14hhh.2.2.2.2))))))) (fun y15=>
 vbl (.inr (x.1,x.2.1,x.2.2.2.1,x.2.2.2.2.1,x.2.2.2.2.2.1,x.2.2.2.2.2.2.1,x.2.2.2.2.2.2.2.1,xh.1,xh.2.1,xh.2.2.1,xh.2.2.2.1,xh.2.2.2.2.1,xh.2.2.2.2.2.1,t0,0,0,0,0,false,(⟨#[]⟩:ByteArray),(⟨#[]⟩:ByteArray),false,y15.1,y15.2.1,xh.2.2.2.2.2.2.1,xh.2.2.2.2.2.2.2.1,xhh.1,xhh.2.1,xhh.2.2,([]:List vai),([]:List vag),y15.2.2.2.2.1,y15.2.2.2.2.2.1,y15.2.2.2.2.2.2)) (Sum.elim (fun z16=>
 let z16h:=z16.2.2.2.2.2.2.2.2
 let z16hh:=z16h.2.2.2.2.2.2.2.2
 let z16hhh:=z16hh.2.2.2.2.2.2.2.2
 k (.inl (z16.1,z16.2.1,z16.2.2.1,z16.2.2.2.1,z16.2.2.2.2.1,z16.2.2.2.2.2.1,z16.2.2.2.2.2.2.1,z16.2.2.2.2.2.2.2.1,z16h.1,z16h.2.1,z16h.2.2.1,z16h.2.2.2.1,z16h.2.2.2.2.1,z16hhh.1,z16hhh.2.1,z16hhh.2.2.1,z16hhh.2.2.2.1,z16hhh.2.2.2.2.1))) (Sum.elim (fun z17=>
 let z17h:=z17.2.2.2.2.2.2.2.2
 let z17hh:=z17h.2.2.2.2.2.2.2.2
 let z17hhh:=z17hh.2.2.2.2.2.2.2.2
 k (.inl (z17.1,z17.2.1,z17.2.2.1,z17.2.2.2.1,z17.2.2.2.2.1,z17.2.2.2.2.2.1,z17.2.2.2.2.2.2.1,z17.2.2.2.2.2.2.2.1,z17h.1,z17h.2.1,z17h.2.2.1,z17h.2.2.2.1,z17h.2.2.2.2.1,z17hhh.1,z17hhh.2.1,z17hhh.2.2.1,z17hhh.2.2.2.1,z17hhh.2.2.2.2))) (Sum.elim (fun z18=>
 let z18h:=z18.2.2.2.2.2.2.2.2
 let z18hh:=z18h.2.2.2.2.2.2.2.2
 let z18hhh:=z18hh.2.2.2.2.2.2.2.2
 k (.inl (z18.1,z18.2.1,z18.2.2.1,z18.2.2.2.1,z18.2.2.2.2.1,z18.2.2.2.2.2.1,z18.2.2.2.2.2.2.1,z18.2.2.2.2.2.2.2.1,z18h.1,z18h.2.1,z18h.2.2.1,z18h.2.2.2.1,z18h.2.2.2.2.1,z18hhh.1,z18hhh.2.1,z18hhh.2.2.1,z18hhh.2.2.2.1,z18hhh.2.2.2.2.1))) (fun z19=>
 let z19h:=z19.2.2.2.2.2.2.2.2
 let z19hh:=z19h.2.2.2.2.2.2.2.2
 let z19hhh:=z19hh.2.2.2.2.2.2.2.2
 k (.inr (z19.1,z19.2.1,z19.2.2.1,z19.2.2.2.1,z19.2.2.2.2.1,z19.2.2.2.2.2.1,z19.2.2.2.2.2.2.1,z19.2.2.2.2.2.2.2.1,z19h.1,z19h.2.1,z19h.2.2.1,z19h.2.2.2.1,z19h.2.2.2.2.1,z19hhh.1,z19hhh.2.1,z19hhh.2.2.1,z19hhh.2.2.2.1,z19hhh.2.2.2.2))))))))
 else
 v3t x.2.2.1 (1:Int) (fun y20=>
 let y20h:=y20.2.2.2.2.2.2.2.2
 vbl (.inl (x.1,x.2.1,x.2.2.2.1,x.2.2.2.2.1,x.2.2.2.2.2.1,x.2.2.2.2.2.2.1,x.2.2.2.2.2.2.2.1,xh.1,xh.2.1,xh.2.2.1,xh.2.2.2.1,xh.2.2.2.2.1,xh.2.2.2.2.2.1,t0,y20.1,y20.2.1,y20.2.2.1,y20.2.2.2.1,y20.2.2.2.2.1,y20.2.2.2.2.2.1,(⟨#[]⟩:ByteArray),false,0,0,xh.2.2.2.2.2.2.1,xh.2.2.2.2.2.2.2.1,xhh.1,xhh.2.1,xhh.2.2,y20h.1,y20h.2,([]:List vaa),([]:List dTxn),([]:List dTxn))) (Sum.elim (fun z21=>
 let z21h:=z21.2.2.2.2.2.2.2.2
 let z21hh:=z21h.2.2.2.2.2.2.2.2
 let z21hhh:=z21hh.2.2.2.2.2.2.2.2
 k (.inl (z21.1,z21.2.1,z21.2.2.1,z21.2.2.2.1,z21.2.2.2.2.1,z21.2.2.2.2.2.1,z21.2.2.2.2.2.2.1,z21.2.2.2.2.2.2.2.1,z21h.1,z21h.2.1,z21h.2.2.1,z21h.2.2.2.1,z21h.2.2.2.2.1,z21hhh.1,z21hhh.2.1,z21hhh.2.2.1,z21hhh.2.2.2.1,z21hhh.2.2.2.2.1))) (Sum.elim (fun z22=>
 let z22h:=z22.2.2.2.2.2.2.2.2
 let z22hh:=z22h.2.2.2.2.2.2.2.2
 let z22hhh:=z22hh.2.2.2.2.2.2.2.2
 k (.inl (z22.1,z22.2.1,z22.2.2.1,z22.2.2.2.1,z22.2.2.2.2.1,z22.2.2.2.2.2.1,z22.2.2.2.2.2.2.1,z22.2.2.2.2.2.2.2.1,z22h.1,z22h.2.1,z22h.2.2.1,z22h.2.2.2.1,z22h.2.2.2.2.1,z22hhh.1,z22hhh.2.1,z22hhh.2.2.1,z22hhh.2.2.2.1,z22hhh.2.2.2.2))) (Sum.elim (fun z23=>
 let z23h:=z23.2.2.2.2.2.2.2.2
 let z23hh:=z23h.2.2.2.2.2.2.2.2
 let z23hhh:=z23hh.2.2.2.2.2.2.2.2
 k (.inl (z23.1,z23.2.1,z23.2.2.1,z23.2.2.2.1,z23.2.2.2.2.1,z23.2.2.2.2.2.1,z23.2.2.2.2.2.2.1,z23.2.2.2.2.2.2.2.1,z23h.1,z23h.2.1,z23h.2.2.1,z23h.2.2.2.1,z23h.2.2.2.2.1,z23hhh.1,z23hhh.2.1,z23hhh.2.2.1,z23hhh.2.2.2.1,z23hhh.2.2.2.2.1))) (fun z24=>
 let z24h:=z24.2.2.2.2.2.2.2.2
 let z24hh:=z24h.2.2.2.2.2.2.2.2
 let z24hhh:=z24hh.2.2.2.2.2.2.2.2
 k (.inr (z24.1,z24.2.1,z24.2.2.1,z24.2.2.2.1,z24.2.2.2.2.1,z24.2.2.2.2.2.1,z24.2.2.2.2.2.2.1,z24.2.2.2.2.2.2.2.1,z24h.1,z24h.2.1,z24h.2.2.1,z24h.2.2.2.1,z24h.2.2.2.2.1,z24hhh.1,z24hhh.2.1,z24hhh.2.2.1,z24hhh.2.2.2.1,z24hhh.2.2.2.2)))))))
 else none
instance n92n_jp5000004 (x:q38T):ParC (vfj x):=by unfold vfj;(try dsimp only);exact⟨(vbo (vaf ((n112n_p _ _ _).p.bind fun y4=>((n111n_p _ _ _).p.bind fun y5=>((n92n_jp5000013 _).p.bind2 (fun z6=>(vab _)) (fun q=>vfk (fun z7=>(vab _)) (fun q=>vfk (fun z8=>(vab _)) (fun z9=>(vab _)) q) q)))) (vaf ((n91n_p _ _).p.bind2 (fun y10=>((n92n_jp5000013 _).p.bind2 (fun z11=>(vab _)) (fun q=>vfk (fun z12=>(vab _)) (fun q=>vfk (fun z13=>(vab _)) (fun z14=>(vab _)) q) q))) (fun y15=>((n92n_jp5000013 _).p.bind2 (fun z16=>(vab _)) (fun q=>vfk (fun z17=>(vab _)) (fun q=>vfk (fun z18=>(vab _)) (fun z19=>(vab _)) q) q)))) ((n94n_p _ _).p.bind fun y20=>((n92n_jp5000013 _).p.bind2 (fun z21=>(vab _)) (fun q=>vfk (fun z22=>(vab _)) (fun q=>vfk (fun z23=>(vab _)) (fun z24=>(vab _)) q) q))))) va5)⟩
def wg4 (a0:ByteArray)(k:(q81T⊕q81T)→Option Res):Option Res:=
 vxl a0 (fun y1=>
 bif (!y1.2)then
 k (.inr (0,0,0,0,0,false,(⟨#[]⟩:ByteArray),(⟨#[]⟩:ByteArray),false,0,0,false,([]:List vai),([]:List vag),([]:List vaa),([]:List dTxn),([]:List dTxn)))
 else
 bif (vap y1.1 (⟨#[]⟩:ByteArray))then
 k (.inr (0,0,0,0,0,false,(⟨#[]⟩:ByteArray),(⟨#[]⟩:ByteArray),false,0,0,false,([]:List vai),([]:List vag),([]:List vaa),([]:List dTxn),([]:List dTxn)))
 else
 vfj (a0,false,y1.1,0,0,0,0,0,false,(⟨#[]⟩:ByteArray),(⟨#[]⟩:ByteArray),false,0,0,([]:List vai),([]:List vag),([]:List vaa),([]:List dTxn),([]:List dTxn)) (Sum.elim (fun z2=>
 let z2h:=z2.2.2.2.2.2.2.2.2
 let z2hh:=z2h.2.2.2.2.2.2.2.2
 k (.inr (z2.2.2.1,z2.2.2.2.1,z2.2.2.2.2.1,z2.2.2.2.2.2.1,z2.2.2.2.2.2.2.1,z2.2.2.2.2.2.2.2.1,z2h.1,z2h.2.1,z2h.2.2.1,z2h.2.2.2.1,z2h.2.2.2.2.1,z2.2.1,z2h.2.2.2.2.2.1,z2h.2.2.2.2.2.2.1,z2h.2.2.2.2.2.2.2.1,z2hh.1,z2hh.2))) (fun z3=>
 let z3h:=z3.2.2.2.2.2.2.2.2
 let z3hh:=z3h.2.2.2.2.2.2.2.2
 k (.inl (z3.2.2.1,z3.2.2.2.1,z3.2.2.2.2.1,z3.2.2.2.2.2.1,z3.2.2.2.2.2.2.1,z3.2.2.2.2.2.2.2.1,z3h.1,z3h.2.1,z3h.2.2.1,z3h.2.2.2.1,z3h.2.2.2.2.1,z3.2.1,z3h.2.2.2.2.2.1,z3h.2.2.2.2.2.2.1,z3h.2.2.2.2.2.2.2.1,z3hh.1,z3hh.2)))))
def v2x:=shut wg4
theorem wme:v2x=wg4:=vaj _
instance n92n_p (a0:ByteArray):ParC (v2x a0):=by rw [wme];unfold wg4;(try dsimp only);infer_instance
def vy0 (x:(Int×ByteArray×Int×Int))(k:(Int×ByteArray×Int×Int)⊕(Int×ByteArray×Int×Int)→Option Res):Option Res:=
 bif (decide (x.2.2.2<8))then
 bif ((x.1.tmod (2:Int))==(1:Int))then
 k (.inl ((IntKind.wrap .u32 (BitVec.ofInt (IntKind.bits .u32) (IntKind.wrap .u32 (x.1.tdiv (2:Int))) ^^^ BitVec.ofInt (IntKind.bits .u32) (3558460437:Int)).toNat),x.2.1,x.2.2.1,(IntKind.wrap .i64 (x.2.2.2+1))))
 else
 k (.inl ((IntKind.wrap .u32 (x.1.tdiv (2:Int))),x.2.1,x.2.2.1,(IntKind.wrap .i64 (x.2.2.2+1))))
 else
 k (.inr (x.1,x.2.1,x.2.2.1,x.2.2.2))
instance n15n_bp2 (x:(Int×ByteArray×Int×Int)):ParC (vy0 x):=by unfold vy0;(try dsimp only);infer_instance
def vuv (x:(Int×ByteArray×Int))(k:(Int×ByteArray×Int)⊕(Int×ByteArray×Int)→Option Res):Option Res:=
 bif (decide (x.2.2<(x.2.1.size:Int)))then
 if 0≤x.2.2∧x.2.2<(x.2.1.size:Int)then
 vae vy0 Fuel ((IntKind.wrap .u32 (BitVec.ofInt (IntKind.bits .u32) x.1 ^^^ BitVec.ofInt (IntKind.bits .u32) (IntKind.wrap .u32 (bt x.2.1 x.2.2))).toNat),x.2.1,x.2.2,0) (fun z2=>
 k (.inl (z2.1,z2.2.1,(IntKind.wrap .i64 (z2.2.2.1+1)))))
 else none
 else
 k (.inr (x.1,x.2.1,x.2.2))
instance n15n_bp0 (x:(Int×ByteArray×Int)):ParC (vuv x):=by unfold vuv;(try dsimp only);infer_instance
def wie (a0:Int)(a1:ByteArray)(k:Int→Option Res):Option Res:=
 vae vuv Fuel (a0,a1,0) (fun z1=>
 k z1.1)
def wa9:=shut wie
theorem wqi:wa9=wie:=vaj _
instance n15n_p (a0:Int)(a1:ByteArray):ParC (wa9 a0 a1):=by rw [wqi];unfold wie;(try dsimp only);infer_instance
def wfh (a0:ByteArray)(k:Int→Option Res):Option Res:=
 wa9 (4294967295:Int) a0 (fun y1=>
 k y1)
def v86:=shut wfh
theorem wo1:v86=wfh:=vaj _
instance n16n_p (a0:ByteArray):ParC (v86 a0):=by rw [wo1];unfold wfh;(try dsimp only);infer_instance
def wiz (a0:ByteArray)(k:(ByteArray×Bool)→Option Res):Option Res:=
 bif (decide ((a0.size:Int)>(20000:Int)))then
 k ((⟨#[]⟩:ByteArray),false)
 else
 v86 a0 (fun y1=>
 if a0.size+(van [(IntKind.wrap .u8 (y1.fdiv (2^(min (24:Int).toNat (IntKind.bits .u32))))),(IntKind.wrap .u8 (y1.fdiv (2^(min (16:Int).toNat (IntKind.bits .u32))))),(IntKind.wrap .u8 (y1.fdiv (2^(min (8:Int).toNat (IntKind.bits .u32))))),(IntKind.wrap .u8 y1)]).size≤1099511627776 then
 k ((a0++(van [(IntKind.wrap .u8 (y1.fdiv (2^(min (24:Int).toNat (IntKind.bits .u32))))),(IntKind.wrap .u8 (y1.fdiv (2^(min (16:Int).toNat (IntKind.bits .u32))))),(IntKind.wrap .u8 (y1.fdiv (2^(min (8:Int).toNat (IntKind.bits .u32))))),(IntKind.wrap .u8 y1)])),true)
 else none)
def vyv:=shut wiz
theorem wmv:vyv=wiz:=vaj _
instance n13n_p (a0:ByteArray):ParC (vyv a0):=by rw [wmv];unfold wiz;(try dsimp only);infer_instance
def wfw (a0:ByteArray)(k:(ByteArray×Bool)→Option Res):Option Res:=
 bif (decide ((a0.size:Int)<(4:Int)))then
 k ((⟨#[]⟩:ByteArray),false)
 else
 if 0≤(0:Int)∧(0:Int)≤(IntKind.wrap .i64 ((a0.size:Int)-4))∧(IntKind.wrap .i64 ((a0.size:Int)-4))≤(a0.size:Int)then
 vyv (a0.extract (0:Int).toNat (IntKind.wrap .i64 ((a0.size:Int)-4)).toNat) (fun y1=>
 bif (!y1.2)then
 k ((⟨#[]⟩:ByteArray),false)
 else
 bif (!(vap y1.1 a0))then
 k ((⟨#[]⟩:ByteArray),false)
 else
 k ((a0.extract (0:Int).toNat (IntKind.wrap .i64 ((a0.size:Int)-4)).toNat),true))
 else none
def v9s:=shut wfw
theorem woa:v9s=wfw:=vaj _
instance n19n_p (a0:ByteArray):ParC (v9s a0):=by rw [woa];unfold wfw;(try dsimp only);infer_instance
def wi6 (a0:Int)(a1:Int)(a2:Int)(k:Bool→Option Res):Option Res:=
 bif (decide (a0≥a1))then
 k (decide (a0≤a2))
 else
 k false
def vdl:=shut wi6
theorem wob:vdl=wi6:=vaj _
instance n56n_p (a0:Int)(a1:Int)(a2:Int):ParC (vdl a0 a1 a2):=by rw [wob];unfold wi6;(try dsimp only);infer_instance
def vkr (x:(Int×(List Int)))(k:(Int×(List Int))⊕(Int×(List Int))→Option Res):Option Res:=
 bif (decide (x.1>127))then
 if x.2.length+[(IntKind.wrap .u8 (IntKind.wrap .i64 ((x.1.tmod (128:Int))+(128:Int))))].length≤VE.maxLen then
 k (.inl ((IntKind.wrap .i64 (x.1.tdiv (128:Int))),(x.2++[(IntKind.wrap .u8 (IntKind.wrap .i64 ((x.1.tmod (128:Int))+(128:Int))))])))
 else none
 else
 k (.inr (x.1,x.2))
instance n20n_bp0 (x:(Int×(List Int))):ParC (vkr x):=by unfold vkr;(try dsimp only);infer_instance
def v82 (a0:Int)(k:(ByteArray×Bool)→Option Res):Option Res:=
 vdl a0 (0:Int) (1000000000:Int) (fun y1=>
 bif (!y1)then
 k ((⟨#[]⟩:ByteArray),false)
 else
 vae vkr Fuel (a0,([]:List Int)) (fun z2=>
 if z2.2.length+[(IntKind.wrap .u8 z2.1)].length≤VE.maxLen then
 k ((van (z2.2++[(IntKind.wrap .u8 z2.1)])),true)
 else none))
def vpi:=shut v82
theorem wfy:vpi=v82:=vaj _
instance n20n_p (a0:Int):ParC (vpi a0):=by rw [wfy];unfold v82;(try dsimp only);infer_instance
def vfo (x:q53T)(k:(q53T⊕q53T)→Option Res):Option Res:=
 let t0:=(IntKind.wrap .i64 (x.2.2.2.2.2.1+(IntKind.wrap .i64 (((IntKind.wrap .i64 (bt x.1 (IntKind.wrap .i64 (x.2.1+x.2.2.2.2.2.2)))).tmod (128:Int))*2^(min (IntKind.wrap .i64 ((7:Int)*x.2.2.2.2.2.2)).toNat (IntKind.bits .i64))))))
 if 0≤(IntKind.wrap .i64 (x.2.1+x.2.2.2.2.2.2))∧(IntKind.wrap .i64 (x.2.1+x.2.2.2.2.2.2))<(x.1.size:Int)then
 if(IntKind.wrap .i64 ((7:Int)*x.2.2.2.2.2.2))<0 then none else
 bif (decide ((IntKind.wrap .i64 (bt x.1 (IntKind.wrap .i64 (x.2.1+x.2.2.2.2.2.2))))<(128:Int)))then
 vpi t0 (fun y6=>
 bif (!y6.2)then
 k (.inl (x.1,x.2.1,0,0,false,t0,x.2.2.2.2.2.2))
 else
 bif ((y6.1.size:Int) != (IntKind.wrap .i64 (x.2.2.2.2.2.2+1)))then
 k (.inl (x.1,x.2.1,0,0,false,t0,x.2.2.2.2.2.2))
 else
 k (.inl (x.1,x.2.1,t0,(IntKind.wrap .i64 ((IntKind.wrap .i64 (x.2.1+x.2.2.2.2.2.2))+1)),true,t0,x.2.2.2.2.2.2)))
 else
 k (.inr (x.1,x.2.1,x.2.2.1,x.2.2.2.1,x.2.2.2.2.1,t0,(IntKind.wrap .i64 (x.2.2.2.2.2.2+1))))
 else none
instance n10n_jp6000001 (x:q53T):ParC (vfo x):=by unfold vfo;(try dsimp only);infer_instance
def vpq (x:q53T)(k:q53T⊕(q53T⊕q53T)→Option Res):Option Res:=
 bif (decide (x.2.2.2.2.2.2<5))then
 bif (decide ((IntKind.wrap .i64 (x.2.1+x.2.2.2.2.2.2))<(x.1.size:Int)))then
 vfo (x.1,x.2.1,x.2.2.1,x.2.2.2.1,x.2.2.2.2.1,x.2.2.2.2.2.1,x.2.2.2.2.2.2) (Sum.elim (fun z4=>
 k (.inr (.inr (z4.1,z4.2.1,z4.2.2.1,z4.2.2.2.1,z4.2.2.2.2.1,z4.2.2.2.2.2.1,z4.2.2.2.2.2.2)))) (fun z5=>
 k (.inl (z5.1,z5.2.1,z5.2.2.1,z5.2.2.2.1,z5.2.2.2.2.1,z5.2.2.2.2.2.1,z5.2.2.2.2.2.2))))
 else
 k (.inr (.inl (x.1,x.2.1,x.2.2.1,x.2.2.2.1,x.2.2.2.2.1,x.2.2.2.2.2.1,x.2.2.2.2.2.2)))
 else
 k (.inr (.inl (x.1,x.2.1,x.2.2.1,x.2.2.2.1,x.2.2.2.2.1,x.2.2.2.2.2.1,x.2.2.2.2.2.2)))
instance n10n_bp0 (x:q53T):ParC (vpq x):=by unfold vpq;(try dsimp only);infer_instance
def wiy (a0:ByteArray)(a1:Int)(k:(Int×Int×Bool)→Option Res):Option Res:=
 vdl a1 (0:Int) (a0.size:Int) (fun y1=>
 bif (!y1)then
 k (0,0,false)
 else
 vae vpq Fuel (a0,a1,0,0,false,0,0) (Sum.elim (fun _=>
 k (0,0,false)) (fun z3=>
 k (z3.2.2.1,z3.2.2.2.1,z3.2.2.2.2.1))))
def v2q:=shut wiy
theorem wpl:v2q=wiy:=vaj _
instance n10n_p (a0:ByteArray)(a1:Int):ParC (v2q a0 a1):=by rw [wpl];unfold wiy;(try dsimp only);infer_instance
def wip (a0:ByteArray)(a1:Int)(k:(ByteArray×Int×Bool)→Option Res):Option Res:=
 v2q a0 a1 (fun y1=>
 bif (!y1.2.2)then
 k ((⟨#[]⟩:ByteArray),0,false)
 else
 bif (decide (y1.1>20000))then
 k ((⟨#[]⟩:ByteArray),0,false)
 else
 bif (decide (y1.1>(IntKind.wrap .i64 ((a0.size:Int)-y1.2.1))))then
 k ((⟨#[]⟩:ByteArray),0,false)
 else
 if 0≤y1.2.1∧y1.2.1≤(IntKind.wrap .i64 (y1.2.1+y1.1))∧(IntKind.wrap .i64 (y1.2.1+y1.1))≤(a0.size:Int)then
 k ((a0.extract y1.2.1.toNat (IntKind.wrap .i64 (y1.2.1+y1.1)).toNat),(IntKind.wrap .i64 (y1.2.1+y1.1)),true)
 else none)
def v9x:=shut wip
theorem wn1:v9x=wip:=vaj _
instance n09n_p (a0:ByteArray)(a1:Int):ParC (v9x a0 a1):=by rw [wn1];unfold wip;(try dsimp only);infer_instance
def wfe (a0:ByteArray)(a1:Int)(a2:Bool)(k:q44T→Option Res):Option Res:=
 v9x a0 a1 (fun y1=>
 bif a2 then
 k ((⟨#[]⟩:ByteArray),a0,a1,true)
 else
 bif (!y1.2.2)then
 k ((⟨#[]⟩:ByteArray),a0,a1,true)
 else
 k (y1.1,a0,y1.2.1,a2))
def vgc:=shut wfe
theorem wmo:vgc=wfe:=vaj _
instance n49n_p (a0:ByteArray)(a1:Int)(a2:Bool):ParC (vgc a0 a1 a2):=by rw [wmo];unfold wfe;(try dsimp only);infer_instance
def vff (x:q27T)(k:q27T→Option Res):Option Res:=
 if 0≤(IntKind.wrap .i64 ((IntKind.wrap .i64 (x.2.2.1+1))-1))∧(IntKind.wrap .i64 ((IntKind.wrap .i64 (x.2.2.1+1))-1))<(x.2.1.size:Int)then
 k (((bt x.2.1 (IntKind.wrap .i64 ((IntKind.wrap .i64 (x.2.2.1+1))-1)))==(1:Int)),x.2.1,(IntKind.wrap .i64 (x.2.2.1+1)),x.2.2.2)
 else none
instance n47n_jp5000004 (x:q27T):ParC (vff x):=by unfold vff;(try dsimp only);infer_instance
def wi4 (a0:ByteArray)(a1:Int)(a2:Bool)(k:q27T→Option Res):Option Res:=
 bif a2 then
 k (false,a0,a1,true)
 else
 vdl a1 (0:Int) (IntKind.wrap .i64 ((a0.size:Int)-1)) (fun y1=>
 bif (!y1)then
 k (false,a0,a1,true)
 else
 if 0≤a1∧a1<(a0.size:Int)then
 bif (decide ((bt a0 a1)>(1:Int)))then
 k (false,a0,a1,true)
 else
 vff (false,a0,a1,a2) (fun z2=>
 k (z2.1,z2.2.1,z2.2.2.1,z2.2.2.2))
 else none)
def vrf:=shut wi4
theorem wm6:vrf=wi4:=vaj _
instance n47n_p (a0:ByteArray)(a1:Int)(a2:Bool):ParC (vrf a0 a1 a2):=by rw [wm6];unfold wi4;(try dsimp only);infer_instance
def wi5 (a0:ByteArray)(a1:Int)(a2:Bool)(k:(Int×ByteArray×Int×Bool)→Option Res):Option Res:=
 v2q a0 a1 (fun y1=>
 bif a2 then
 k (0,a0,a1,true)
 else
 bif (!y1.2.2)then
 k (0,a0,a1,true)
 else
 k (y1.1,a0,y1.2.1,a2))
def vgz:=shut wi5
theorem wot:vgz=wi5:=vaj _
instance n48n_p (a0:ByteArray)(a1:Int)(a2:Bool):ParC (vgz a0 a1 a2):=by rw [wot];unfold wi5;(try dsimp only);infer_instance
def woj (a0:Int)(a1:Int)(a2:ByteArray)(a3:Int)(a4:Bool)(k:q65T→Option Res):Option Res:=
 vgc a2 a3 a4 (fun y1=>
 vgc y1.2.1 y1.2.2.1 y1.2.2.2 (fun y2=>
 vrf y2.2.1 y2.2.2.1 y2.2.2.2 (fun y3=>
 vgz y3.2.1 y3.2.2.1 y3.2.2.2 (fun y4=>
 if [(y1.1,(y2.1,(y3.1,y4.1)))].length≤VE.maxLen then
 k (a0,a1,y4.2.1,y4.2.2.1,y4.2.2.2,[(y1.1,(y2.1,(y3.1,y4.1)))])
 else none))))
def wpc:=shut woj
theorem wym:wpc=woj:=vaj _
instance n36n_p (a0:Int)(a1:Int)(a2:ByteArray)(a3:Int)(a4:Bool):ParC (wpc a0 a1 a2 a3 a4):=by rw [wym];unfold woj;(try dsimp only);infer_instance
def wg9 (a0:Int)(a1:Int)(a2:ByteArray)(a3:Int)(a4:Bool)(a5:(List vaa))(k:q65T→Option Res):Option Res:=
 vgc a2 a3 a4 (fun y1=>
 vgc y1.2.1 y1.2.2.1 y1.2.2.2 (fun y2=>
 vrf y2.2.1 y2.2.2.1 y2.2.2.2 (fun y3=>
 vgz y3.2.1 y3.2.2.1 y3.2.2.2 (fun y4=>
 if a5.length+[(y1.1,(y2.1,(y3.1,y4.1)))].length≤VE.maxLen then
 k (a0,a1,y4.2.1,y4.2.2.1,y4.2.2.2,(a5++[(y1.1,(y2.1,(y3.1,y4.1)))]))
 else none))))
def whn:=shut wg9
theorem wqt:whn=wg9:=vaj _
instance n37n_p (a0:Int)(a1:Int)(a2:ByteArray)(a3:Int)(a4:Bool)(a5:(List vaa)):ParC (whn a0 a1 a2 a3 a4 a5):=by rw [wqt];unfold wg9;(try dsimp only);infer_instance
def vfs (x:q69T)(k:q69T→Option Res):Option Res:=
 whn x.2.2.2.2.2.1 x.2.2.2.2.2.2.1 x.2.2.1 x.2.2.2.1 x.2.2.2.2.1 x.2.2.2.2.2.2.2 (fun y4=>
 k (x.1,(IntKind.wrap .i64 (x.2.1+1)),y4.2.2.1,y4.2.2.2.1,y4.2.2.2.2.1,y4.1,y4.2.1,y4.2.2.2.2.2))
instance n42n_jp6000001 (x:q69T):ParC (vfs x):=by unfold vfs;(try dsimp only);infer_instance
def vrs (x:q69T)(k:q69T⊕q69T→Option Res):Option Res:=
 bif (decide (x.2.1<x.1))then
 bif (!x.2.2.2.2.1)then
 vfs (x.1,x.2.1,x.2.2.1,x.2.2.2.1,x.2.2.2.2.1,x.2.2.2.2.2.1,x.2.2.2.2.2.2.1,x.2.2.2.2.2.2.2) (fun z3=>
 k (.inl (z3.1,z3.2.1,z3.2.2.1,z3.2.2.2.1,z3.2.2.2.2.1,z3.2.2.2.2.2.1,z3.2.2.2.2.2.2.1,z3.2.2.2.2.2.2.2)))
 else
 k (.inr (x.1,x.2.1,x.2.2.1,x.2.2.2.1,x.2.2.2.2.1,x.2.2.2.2.2.1,x.2.2.2.2.2.2.1,x.2.2.2.2.2.2.2))
 else
 k (.inr (x.1,x.2.1,x.2.2.1,x.2.2.2.1,x.2.2.2.2.1,x.2.2.2.2.2.1,x.2.2.2.2.2.2.1,x.2.2.2.2.2.2.2))
instance n42n_bp0 (x:q69T):ParC (vrs x):=by unfold vrs;(try dsimp only);infer_instance
def wio (a0:ByteArray)(a1:Int)(a2:Bool)(a3:Int)(a4:Int)(k:q49T→Option Res):Option Res:=
 vgz a0 a1 a2 (fun y1=>
 vae vrs Fuel (y1.1,0,y1.2.1,y1.2.2.1,y1.2.2.2,a3,a4,([]:List vaa)) (fun z2=>
 k (z2.2.2.1,z2.2.2.2.1,z2.2.2.2.2.1,z2.2.2.2.2.2.1,z2.2.2.2.2.2.2.1,z2.2.2.2.2.2.2.2)))
def v9g:=shut wio
theorem wmr:v9g=wio:=vaj _
instance n42n_p (a0:ByteArray)(a1:Int)(a2:Bool)(a3:Int)(a4:Int):ParC (v9g a0 a1 a2 a3 a4):=by rw [wmr];unfold wio;(try dsimp only);infer_instance
def wre (a0:Int)(a1:Int)(a2:Int)(a3:Int)(a4:Bool)(a5:ByteArray)(a6:ByteArray)(a7:Int)(a8:Bool)(k:q76T→Option Res):Option Res:=
 vgc a6 a7 a8 (fun y1=>
 vgc y1.2.1 y1.2.2.1 y1.2.2.2 (fun y2=>
 if [(y1.1,y2.1)].length≤VE.maxLen then
 k (a0,a1,a2,a3,a4,a5,y2.2.1,y2.2.2.1,y2.2.2.2,[(y1.1,y2.1)])
 else none))
def wp5:=shut wre
theorem wxo:wp5=wre:=vaj _
instance n51n_p (a0:Int)(a1:Int)(a2:Int)(a3:Int)(a4:Bool)(a5:ByteArray)(a6:ByteArray)(a7:Int)(a8:Bool):ParC (wp5 a0 a1 a2 a3 a4 a5 a6 a7 a8):=by rw [wxo];unfold wre;(try dsimp only);infer_instance
def wi3 (a0:Int)(a1:Int)(a2:Int)(a3:Int)(a4:Bool)(a5:ByteArray)(a6:(List vai))(a7:ByteArray)(a8:Int)(a9:Bool)(k:q76T→Option Res):Option Res:=
 vgc a7 a8 a9 (fun y1=>
 vgc y1.2.1 y1.2.2.1 y1.2.2.2 (fun y2=>
 if a6.length+[(y1.1,y2.1)].length≤VE.maxLen then
 k (a0,a1,a2,a3,a4,a5,y2.2.1,y2.2.2.1,y2.2.2.2,(a6++[(y1.1,y2.1)]))
 else none))
def wfg:=shut wi3
theorem wm8:wfg=wi3:=vaj _
instance n52n_p (a0:Int)(a1:Int)(a2:Int)(a3:Int)(a4:Bool)(a5:ByteArray)(a6:(List vai))(a7:ByteArray)(a8:Int)(a9:Bool):ParC (wfg a0 a1 a2 a3 a4 a5 a6 a7 a8 a9):=by rw [wm8];unfold wi3;(try dsimp only);infer_instance
def vf7 (x:q71T)(k:q71T→Option Res):Option Res:=
 let xh:=x.2.2.2.2.2.2.2.2
 wfg x.2.2.2.2.2.1 x.2.2.2.2.2.2.1 x.2.2.2.2.2.2.2.1 xh.1 xh.2.1 xh.2.2.1 xh.2.2.2 x.2.2.1 x.2.2.2.1 x.2.2.2.2.1 (fun y4=>
 let y4h:=y4.2.2.2.2.2.2.2.2
 k (x.1,(IntKind.wrap .i64 (x.2.1+1)),y4.2.2.2.2.2.2.1,y4.2.2.2.2.2.2.2.1,y4h.1,y4.1,y4.2.1,y4.2.2.1,y4.2.2.2.1,y4.2.2.2.2.1,y4.2.2.2.2.2.1,y4h.2))
instance n45n_jp6000001 (x:q71T):ParC (vf7 x):=by unfold vf7;(try dsimp only);infer_instance
def vsy (x:q71T)(k:q71T⊕q71T→Option Res):Option Res:=
 let xh:=x.2.2.2.2.2.2.2.2
 bif (decide (x.2.1<x.1))then
 bif (!x.2.2.2.2.1)then
 vf7 (x.1,x.2.1,x.2.2.1,x.2.2.2.1,x.2.2.2.2.1,x.2.2.2.2.2.1,x.2.2.2.2.2.2.1,x.2.2.2.2.2.2.2.1,xh.1,xh.2.1,xh.2.2.1,xh.2.2.2) (fun z3=>
 let z3h:=z3.2.2.2.2.2.2.2.2
 k (.inl (z3.1,z3.2.1,z3.2.2.1,z3.2.2.2.1,z3.2.2.2.2.1,z3.2.2.2.2.2.1,z3.2.2.2.2.2.2.1,z3.2.2.2.2.2.2.2.1,z3h.1,z3h.2.1,z3h.2.2.1,z3h.2.2.2)))
 else
 k (.inr (x.1,x.2.1,x.2.2.1,x.2.2.2.1,x.2.2.2.2.1,x.2.2.2.2.2.1,x.2.2.2.2.2.2.1,x.2.2.2.2.2.2.2.1,xh.1,xh.2.1,xh.2.2.1,xh.2.2.2))
 else
 k (.inr (x.1,x.2.1,x.2.2.1,x.2.2.2.1,x.2.2.2.2.1,x.2.2.2.2.2.1,x.2.2.2.2.2.2.1,x.2.2.2.2.2.2.2.1,xh.1,xh.2.1,xh.2.2.1,xh.2.2.2))
instance n45n_bp0 (x:q71T):ParC (vsy x):=by unfold vsy;(try dsimp only);infer_instance
def wi2 (a0:ByteArray)(a1:Int)(a2:Bool)(a3:Int)(a4:Int)(a5:Int)(a6:Int)(a7:Bool)(a8:ByteArray)(k:q51T→Option Res):Option Res:=
 vgz a0 a1 a2 (fun y1=>
 vae vsy Fuel (y1.1,0,y1.2.1,y1.2.2.1,y1.2.2.2,a3,a4,a5,a6,a7,a8,([]:List vai)) (fun z2=>
 let z2h:=z2.2.2.2.2.2.2.2.2
 k (z2.2.2.1,z2.2.2.2.1,z2.2.2.2.2.1,z2.2.2.2.2.2.1,z2.2.2.2.2.2.2.1,z2.2.2.2.2.2.2.2.1,z2h.1,z2h.2.1,z2h.2.2.1,z2h.2.2.2)))
def wag:=shut wi2
theorem wnl:wag=wi2:=vaj _
instance n45n_p (a0:ByteArray)(a1:Int)(a2:Bool)(a3:Int)(a4:Int)(a5:Int)(a6:Int)(a7:Bool)(a8:ByteArray):ParC (wag a0 a1 a2 a3 a4 a5 a6 a7 a8):=by rw [wnl];unfold wi2;(try dsimp only);infer_instance
def wmp (a0:Int)(a1:Int)(a2:Int)(a3:Int)(a4:Bool)(a5:ByteArray)(a6:ByteArray)(a7:Int)(a8:Bool)(a9:(List vai))(k:q75T→Option Res):Option Res:=
 vgc a6 a7 a8 (fun y1=>
 vgc y1.2.1 y1.2.2.1 y1.2.2.2 (fun y2=>
 vrf y2.2.1 y2.2.2.1 y2.2.2.2 (fun y3=>
 if [(y1.1,(y2.1,y3.1))].length≤VE.maxLen then
 k (a0,a1,a2,a3,a4,a5,y3.2.1,y3.2.2.1,y3.2.2.2,a9,[(y1.1,(y2.1,y3.1))])
 else none)))
def wrc:=shut wmp
theorem wyf:wrc=wmp:=vaj _
instance n53n_p (a0:Int)(a1:Int)(a2:Int)(a3:Int)(a4:Bool)(a5:ByteArray)(a6:ByteArray)(a7:Int)(a8:Bool)(a9:(List vai)):ParC (wrc a0 a1 a2 a3 a4 a5 a6 a7 a8 a9):=by rw [wyf];unfold wmp;(try dsimp only);infer_instance
def wg3 (a0:Int)(a1:Int)(a2:Int)(a3:Int)(a4:Bool)(a5:ByteArray)(a6:ByteArray)(a7:Int)(a8:Bool)(a9:(List vai))(a10:(List vag))(k:q75T→Option Res):Option Res:=
 vgc a6 a7 a8 (fun y1=>
 vgc y1.2.1 y1.2.2.1 y1.2.2.2 (fun y2=>
 vrf y2.2.1 y2.2.2.1 y2.2.2.2 (fun y3=>
 if a10.length+[(y1.1,(y2.1,y3.1))].length≤VE.maxLen then
 k (a0,a1,a2,a3,a4,a5,y3.2.1,y3.2.2.1,y3.2.2.2,a9,(a10++[(y1.1,(y2.1,y3.1))]))
 else none)))
def wir:=shut wg3
theorem wq8:wir=wg3:=vaj _
instance n54n_p (a0:Int)(a1:Int)(a2:Int)(a3:Int)(a4:Bool)(a5:ByteArray)(a6:ByteArray)(a7:Int)(a8:Bool)(a9:(List vai))(a10:(List vag)):ParC (wir a0 a1 a2 a3 a4 a5 a6 a7 a8 a9 a10):=by rw [wq8];unfold wg3;(try dsimp only);infer_instance
def ve9 (x:q70T)(k:q70T→Option Res):Option Res:=
 let xh:=x.2.2.2.2.2.2.2.2
 wir x.2.2.2.2.2.1 x.2.2.2.2.2.2.1 x.2.2.2.2.2.2.2.1 xh.1 xh.2.1 xh.2.2.1 x.2.2.1 x.2.2.2.1 x.2.2.2.2.1 xh.2.2.2.1 xh.2.2.2.2 (fun y4=>
 let y4h:=y4.2.2.2.2.2.2.2.2
 k (x.1,(IntKind.wrap .i64 (x.2.1+1)),y4.2.2.2.2.2.2.1,y4.2.2.2.2.2.2.2.1,y4h.1,y4.1,y4.2.1,y4.2.2.1,y4.2.2.2.1,y4.2.2.2.2.1,y4.2.2.2.2.2.1,y4h.2.1,y4h.2.2))
instance n46n_jp6000001 (x:q70T):ParC (ve9 x):=by unfold ve9;(try dsimp only);infer_instance
def vsx (x:q70T)(k:q70T⊕q70T→Option Res):Option Res:=
 let xh:=x.2.2.2.2.2.2.2.2
 bif (decide (x.2.1<x.1))then
 bif (!x.2.2.2.2.1)then
 ve9 (x.1,x.2.1,x.2.2.1,x.2.2.2.1,x.2.2.2.2.1,x.2.2.2.2.2.1,x.2.2.2.2.2.2.1,x.2.2.2.2.2.2.2.1,xh.1,xh.2.1,xh.2.2.1,xh.2.2.2.1,xh.2.2.2.2) (fun z3=>
 let z3h:=z3.2.2.2.2.2.2.2.2
 k (.inl (z3.1,z3.2.1,z3.2.2.1,z3.2.2.2.1,z3.2.2.2.2.1,z3.2.2.2.2.2.1,z3.2.2.2.2.2.2.1,z3.2.2.2.2.2.2.2.1,z3h.1,z3h.2.1,z3h.2.2.1,z3h.2.2.2.1,z3h.2.2.2.2)))
 else
 k (.inr (x.1,x.2.1,x.2.2.1,x.2.2.2.1,x.2.2.2.2.1,x.2.2.2.2.2.1,x.2.2.2.2.2.2.1,x.2.2.2.2.2.2.2.1,xh.1,xh.2.1,xh.2.2.1,xh.2.2.2.1,xh.2.2.2.2))
 else
 k (.inr (x.1,x.2.1,x.2.2.1,x.2.2.2.1,x.2.2.2.2.1,x.2.2.2.2.2.1,x.2.2.2.2.2.2.1,x.2.2.2.2.2.2.2.1,xh.1,xh.2.1,xh.2.2.1,xh.2.2.2.1,xh.2.2.2.2))
instance n46n_bp0 (x:q70T):ParC (vsx x):=by unfold vsx;(try dsimp only);infer_instance
def wh9 (a0:ByteArray)(a1:Int)(a2:Bool)(a3:Int)(a4:Int)(a5:Int)(a6:Int)(a7:Bool)(a8:ByteArray)(a9:(List vai))(k:q50T→Option Res):Option Res:=
 vgz a0 a1 a2 (fun y1=>
 vae vsx Fuel (y1.1,0,y1.2.1,y1.2.2.1,y1.2.2.2,a3,a4,a5,a6,a7,a8,a9,([]:List vag)) (fun z2=>
 let z2h:=z2.2.2.2.2.2.2.2.2
 k (z2.2.2.1,z2.2.2.2.1,z2.2.2.2.2.1,z2.2.2.2.2.2.1,z2.2.2.2.2.2.2.1,z2.2.2.2.2.2.2.2.1,z2h.1,z2h.2.1,z2h.2.2.1,z2h.2.2.2.1,z2h.2.2.2.2)))
def wah:=shut wh9
theorem wq3:wah=wh9:=vaj _
instance n46n_p (a0:ByteArray)(a1:Int)(a2:Bool)(a3:Int)(a4:Int)(a5:Int)(a6:Int)(a7:Bool)(a8:ByteArray)(a9:(List vai)):ParC (wah a0 a1 a2 a3 a4 a5 a6 a7 a8 a9):=by rw [wq3];unfold wh9;(try dsimp only);infer_instance
def vny (x:(ByteArray×Bool×Int))(k:(ByteArray×Bool×Int)⊕((ByteArray×Bool×Int)⊕(ByteArray×Bool×Int))→Option Res):Option Res:=
 bif (decide (x.2.2<(x.1.size:Int)))then
 if 0≤x.2.2∧x.2.2<(x.1.size:Int)then
 bif (decide ((bt x.1 x.2.2)<(97:Int)))then
 k (.inr (.inl (x.1,false,x.2.2)))
 else
 if 0≤x.2.2∧x.2.2<(x.1.size:Int)then
 bif (decide ((bt x.1 x.2.2)>(122:Int)))then
 k (.inr (.inl (x.1,false,x.2.2)))
 else
 k (.inl (x.1,x.2.1,(IntKind.wrap .i64 (x.2.2+1))))
 else none
 else none
 else
 k (.inr (.inr (x.1,x.2.1,x.2.2)))
instance n06n_bp0 (x:(ByteArray×Bool×Int)):ParC (vny x):=by unfold vny;(try dsimp only);infer_instance
def wgt (a0:ByteArray)(k:Bool→Option Res):Option Res:=
 vae vny Fuel (a0,false,0) (Sum.elim (fun z1=>
 k z1.2.1) (fun z2=>
 vdl (z2.1.size:Int) (1:Int) (3:Int) (fun y3=>
 k y3)))
def vjs:=shut wgt
theorem wpw:vjs=wgt:=vaj _
instance n06n_p (a0:ByteArray):ParC (vjs a0):=by rw [wpw];unfold wgt;(try dsimp only);infer_instance
def wf5 (a0:vai)(k:Bool→Option Res):Option Res:=
 vjs a0.1 (fun y1=>
 bif y1 then
 vjs a0.2 (fun y2=>
 bif y2 then
 k ((va3 a0.1 a0.2)||(vap a0.1 a0.2))
 else
 k false)
 else
 k false)
def v28:=shut wf5
theorem wlo:v28=wf5:=vaj _
instance n07n_p (a0:vai):ParC (v28 a0):=by rw [wlo];unfold wf5;(try dsimp only);infer_instance
def wi7 (a0:vag)(k:Bool→Option Res):Option Res:=
 vjs a0.1 (fun y1=>
 bif y1 then
 bif (decide ((a0.2.1.size:Int)≤(12:Int)))then
 bif (!a0.2.2)then
 k true
 else
 k (vap a0.2.1 (⟨#[]⟩:ByteArray))
 else
 k false
 else
 k false)
def v3m:=shut wi7
theorem wm0:v3m=wi7:=vaj _
instance n22n_p (a0:vag):ParC (v3m a0):=by rw [wm0];unfold wi7;(try dsimp only);infer_instance
def vnr (x:q18T)(k:q18T⊕(q18T⊕q18T)→Option Res):Option Res:=
 bif (decide (x.2.2.2.2<x.2.2.2.1))then
 if 0≤x.2.2.2.2∧x.2.2.2.2<(x.2.2.1.length:Int)then
 v3m (rd (Ty.zero tWrite) x.2.2.1 x.2.2.2.2) (fun y3=>
 bif (!y3)then
 k (.inr (.inl (x.1,false,x.2.2.1,x.2.2.2.1,x.2.2.2.2)))
 else
 bif (decide (x.2.2.2.2>0))then
 if 0≤(IntKind.wrap .i64 (x.2.2.2.2-1))∧(IntKind.wrap .i64 (x.2.2.2.2-1))<(x.1.length:Int)then
 bif (!(va3 ((rd (Ty.zero tWrite) x.1 (IntKind.wrap .i64 (x.2.2.2.2-1))).1) ((rd (Ty.zero tWrite) x.2.2.1 x.2.2.2.2).1)))then
 k (.inr (.inl (x.1,false,x.2.2.1,x.2.2.2.1,x.2.2.2.2)))
 else
 k (.inl (x.1,x.2.1,x.2.2.1,x.2.2.2.1,(IntKind.wrap .i64 (x.2.2.2.2+1))))
 else none
 else
 k (.inl (x.1,x.2.1,x.2.2.1,x.2.2.2.1,(IntKind.wrap .i64 (x.2.2.2.2+1)))))
 else none
 else
 k (.inr (.inr (x.1,x.2.1,x.2.2.1,x.2.2.2.1,x.2.2.2.2)))
instance n23n_bp0 (x:q18T):ParC (vnr x):=by unfold vnr;(try dsimp only);infer_instance
def whw (a0:(List vag))(k:Bool→Option Res):Option Res:=
 vae vnr Fuel (a0,false,a0,(a0.length:Int),0) (Sum.elim (fun z1=>
 k z1.2.1) (fun z2=>
 k (decide ((z2.1.length:Int)≤(8:Int)))))
def vye:=shut whw
theorem wm4:vye=whw:=vaj _
instance n23n_p (a0:(List vag)):ParC (vye a0):=by rw [wm4];unfold whw;(try dsimp only);infer_instance
def vcl (x:q31T)(k:q31T→Option Res):Option Res:=
 let xh:=x.2.2.2.2.2.2.2.2
 bif (x.2.2.1==(2:Int))then
 vjs xh (fun y15=>
 bif y15 then
 k (true,x.2.1,x.2.2.1,x.2.2.2.1,x.2.2.2.2.1,x.2.2.2.2.2.1,x.2.2.2.2.2.2.1,x.2.2.2.2.2.2.2.1,xh)
 else
 bif (x.2.2.1 != (2:Int))then
 k ((vap xh (⟨#[]⟩:ByteArray)),x.2.1,x.2.2.1,x.2.2.2.1,x.2.2.2.2.1,x.2.2.2.2.2.1,x.2.2.2.2.2.2.1,x.2.2.2.2.2.2.2.1,xh)
 else
 k (false,x.2.1,x.2.2.1,x.2.2.2.1,x.2.2.2.2.1,x.2.2.2.2.2.1,x.2.2.2.2.2.2.1,x.2.2.2.2.2.2.2.1,xh))
 else
 bif (x.2.2.1 != (2:Int))then
 k ((vap xh (⟨#[]⟩:ByteArray)),x.2.1,x.2.2.1,x.2.2.2.1,x.2.2.2.2.1,x.2.2.2.2.2.1,x.2.2.2.2.2.2.1,x.2.2.2.2.2.2.2.1,xh)
 else
 k (false,x.2.1,x.2.2.1,x.2.2.2.1,x.2.2.2.2.1,x.2.2.2.2.2.1,x.2.2.2.2.2.2.1,x.2.2.2.2.2.2.2.1,xh)
instance n17n_jp5000011 (x:q31T):ParC (vcl x):=by unfold vcl;(try dsimp only);infer_instance
def vdg (x:q31T)(k:q31T→Option Res):Option Res:=
 let xh:=x.2.2.2.2.2.2.2.2
 let t0:=(x.1,x.2.1,x.2.2.1,x.2.2.2.1,x.2.2.2.2.1,x.2.2.2.2.2.1,x.2.2.2.2.2.2.1,x.2.2.2.2.2.2.2.1,xh)
 let t1:=(false,x.2.1,x.2.2.1,x.2.2.2.1,x.2.2.2.2.1,x.2.2.2.2.2.1,x.2.2.2.2.2.2.1,x.2.2.2.2.2.2.2.1,xh)
 bif (x.2.2.1==(3:Int))then
 vdl x.2.2.2.2.1 (IntKind.wrap .i64 (x.2.2.2.1+1)) (9999:Int) (fun y10=>
 bif (!y10)then
 k t1
 else
 bif (x.2.2.1 != (3:Int))then
 bif (x.2.2.2.2.1 != (0:Int))then
 k t1
 else
 vcl t0 (fun z11=>
 k (z11.1,z11.2.1,z11.2.2.1,z11.2.2.2.1,z11.2.2.2.2.1,z11.2.2.2.2.2.1,z11.2.2.2.2.2.2.1,z11.2.2.2.2.2.2.2.1,z11.2.2.2.2.2.2.2.2))
 else
 vcl t0 (fun z12=>
 k (z12.1,z12.2.1,z12.2.2.1,z12.2.2.2.1,z12.2.2.2.2.1,z12.2.2.2.2.2.1,z12.2.2.2.2.2.2.1,z12.2.2.2.2.2.2.2.1,z12.2.2.2.2.2.2.2.2)))
 else
 bif (x.2.2.1 != (3:Int))then
 bif (x.2.2.2.2.1 != (0:Int))then
 k t1
 else
 vcl t0 (fun z13=>
 k (z13.1,z13.2.1,z13.2.2.1,z13.2.2.2.1,z13.2.2.2.2.1,z13.2.2.2.2.2.1,z13.2.2.2.2.2.2.1,z13.2.2.2.2.2.2.2.1,z13.2.2.2.2.2.2.2.2))
 else
 vcl t0 (fun z14=>
 k (z14.1,z14.2.1,z14.2.2.1,z14.2.2.2.1,z14.2.2.2.2.1,z14.2.2.2.2.2.1,z14.2.2.2.2.2.2.1,z14.2.2.2.2.2.2.2.1,z14.2.2.2.2.2.2.2.2))
instance n17n_jp5000009 (x:q31T):ParC (vdg x):=by unfold vdg;(try dsimp only);exact⟨(vaf ((n56n_p _ _ _).p.bind fun y10=>(vaf (vab _) (vaf (vaf (vab _) ((n17n_jp5000011 _).p.bind fun z11=>(vab _))) ((n17n_jp5000011 _).p.bind fun z12=>(vab _))))) (vaf (vaf (vab _) ((n17n_jp5000011 _).p.bind fun z13=>(vab _))) ((n17n_jp5000011 _).p.bind fun z14=>(vab _))))⟩
def vp7 (x:q21T)(k:q21T⊕(q21T⊕q21T)→Option Res):Option Res:=
 let xh:=x.2.2.2.2.2.2.2.2
 bif (decide (x.2.2.2.1<x.2.2.1))then
 if 0≤x.2.2.2.1∧x.2.2.2.1<(x.2.1.length:Int)then
 v28 (rd (Ty.zero tRange) x.2.1 x.2.2.2.1) (fun y9=>
 bif (!y9)then
 k (.inr (.inl (false,x.2.1,x.2.2.1,x.2.2.2.1,x.2.2.2.2.1,x.2.2.2.2.2.1,x.2.2.2.2.2.2.1,x.2.2.2.2.2.2.2.1,xh.1,xh.2.1,xh.2.2.1,xh.2.2.2)))
 else
 k (.inl (x.1,x.2.1,x.2.2.1,(IntKind.wrap .i64 (x.2.2.2.1+1)),x.2.2.2.2.1,x.2.2.2.2.2.1,x.2.2.2.2.2.2.1,x.2.2.2.2.2.2.2.1,xh.1,xh.2.1,xh.2.2.1,xh.2.2.2)))
 else none
 else
 k (.inr (.inr (x.1,x.2.1,x.2.2.1,x.2.2.2.1,x.2.2.2.2.1,x.2.2.2.2.2.1,x.2.2.2.2.2.2.1,x.2.2.2.2.2.2.2.1,xh.1,xh.2.1,xh.2.2.1,xh.2.2.2)))
instance n17n_bp0 (x:q21T):ParC (vp7 x):=by unfold vp7;(try dsimp only);infer_instance
def wis (a0:dTxn)(k:Bool→Option Res):Option Res:=
 vae vp7 Fuel (false,a0.2.2.2.2.1,(a0.2.2.2.2.1.length:Int),0,a0.1,a0.2.1,a0.2.2.1,a0.2.2.2.1,a0.2.2.2.2.1,a0.2.2.2.2.2.1,a0.2.2.2.2.2.2.1,a0.2.2.2.2.2.2.2) (Sum.elim (fun z1=>
 k z1.1) (fun z2=>
 let z2h:=z2.2.2.2.2.2.2.2.2
 vdl z2.2.2.2.2.1 (1:Int) (9999:Int) (fun y3=>
 bif (!y3)then
 k false
 else
 vdl z2.2.2.2.2.2.1 (1:Int) (3:Int) (fun y4=>
 bif (!y4)then
 k false
 else
 vdl z2.2.2.2.2.2.2.1 (0:Int) (9999:Int) (fun y5=>
 bif (!y5)then
 k false
 else
 bif (decide ((z2h.1.length:Int)>(8:Int)))then
 k false
 else
 vye z2h.2.1 (fun y6=>
 bif (!y6)then
 k false
 else
 bif z2h.2.2.1 then
 bif (z2.2.2.2.2.2.1==(1:Int))then
 k false
 else
 vdg (z2.1,z2.2.2.2.2.1,z2.2.2.2.2.2.1,z2.2.2.2.2.2.2.1,z2.2.2.2.2.2.2.2.1,z2h.1,z2h.2.1,z2h.2.2.1,z2h.2.2.2) (fun z7=>
 k z7.1)
 else
 vdg (z2.1,z2.2.2.2.2.1,z2.2.2.2.2.2.1,z2.2.2.2.2.2.2.1,z2.2.2.2.2.2.2.2.1,z2h.1,z2h.2.1,z2h.2.2.1,z2h.2.2.2) (fun z8=>
 k z8.1)))))))
def vhg:=shut wis
theorem wqr:vhg=wis:=vaj _
instance n17n_p (a0:dTxn):ParC (vhg a0):=by rw [wqr];unfold wis;(try dsimp only);exact⟨((vbz (fun x=>(n17n_bp0 x).p) _ _).bind2 (fun z1=>(vab _)) (fun z2=>((n56n_p _ _ _).p.bind fun y3=>(vaf (vab _) ((n56n_p _ _ _).p.bind fun y4=>(vaf (vab _) ((n56n_p _ _ _).p.bind fun y5=>(vaf (vab _) (vaf (vab _) ((n23n_p _).p.bind fun y6=>(vaf (vab _) (vaf (vaf (vab _) ((n17n_jp5000009 _).p.bind fun z7=>(vab _))) ((n17n_jp5000009 _).p.bind fun z8=>(vab _))))))))))))))⟩
def v8u (a0:ByteArray)(a1:Int)(a2:Bool)(k:q75T→Option Res):Option Res:=
 vgz a0 a1 a2 (fun y1=>
 vgz y1.2.1 y1.2.2.1 y1.2.2.2 (fun y2=>
 vgz y2.2.1 y2.2.2.1 y2.2.2.2 (fun y3=>
 vgz y3.2.1 y3.2.2.1 y3.2.2.2 (fun y4=>
 wag y4.2.1 y4.2.2.1 y4.2.2.2 y1.1 y2.1 y3.1 y4.1 false (⟨#[]⟩:ByteArray) (fun y5=>
 let y5h:=y5.2.2.2.2.2.2.2.2
 wah y5.1 y5.2.1 y5.2.2.1 y5.2.2.2.1 y5.2.2.2.2.1 y5.2.2.2.2.2.1 y5.2.2.2.2.2.2.1 y5.2.2.2.2.2.2.2.1 y5h.1 y5h.2 (fun y6=>
 let y6h:=y6.2.2.2.2.2.2.2.2
 vrf y6.1 y6.2.1 y6.2.2.1 (fun y7=>
 vgc y7.2.1 y7.2.2.1 y7.2.2.2 (fun y8=>
 bif y8.2.2.2 then
 k (y6.2.2.2.1,y6.2.2.2.2.1,y6.2.2.2.2.2.1,y6.2.2.2.2.2.2.1,y7.1,y8.1,y8.2.1,y8.2.2.1,true,y6h.2.1,y6h.2.2)
 else
 vhg (y6.2.2.2.1,(y6.2.2.2.2.1,(y6.2.2.2.2.2.1,(y6.2.2.2.2.2.2.1,(y6h.2.1,(y6h.2.2,(y7.1,y8.1))))))) (fun y9=>
 k (y6.2.2.2.1,y6.2.2.2.2.1,y6.2.2.2.2.2.1,y6.2.2.2.2.2.2.1,y7.1,y8.1,y8.2.1,y8.2.2.1,(!y9),y6h.2.1,y6h.2.2))))))))))
def vrm:=shut v8u
theorem wib:vrm=v8u:=vaj _
instance n50n_p (a0:ByteArray)(a1:Int)(a2:Bool):ParC (vrm a0 a1 a2):=by rw [wib];unfold v8u;(try dsimp only);exact⟨((n48n_p _ _ _).p.bind fun y1=>((n48n_p _ _ _).p.bind fun y2=>((n48n_p _ _ _).p.bind fun y3=>((n48n_p _ _ _).p.bind fun y4=>((n45n_p _ _ _ _ _ _ _ _ _).p.bind fun y5=>((n46n_p _ _ _ _ _ _ _ _ _ _).p.bind fun y6=>((n47n_p _ _ _).p.bind fun y7=>((n49n_p _ _ _).p.bind fun y8=>(vaf (vab _) ((n17n_p _).p.bind fun y9=>(vab _)))))))))))⟩
def wpa (a0:Int)(a1:Int)(a2:(List vaa))(a3:ByteArray)(a4:Int)(a5:Bool)(k:q63T→Option Res):Option Res:=
 vrm a3 a4 a5 (fun y1=>
 let y1h:=y1.2.2.2.2.2.2.2.2
 if [(y1.1,(y1.2.1,(y1.2.2.1,(y1.2.2.2.1,(y1h.2.1,(y1h.2.2,(y1.2.2.2.2.1,y1.2.2.2.2.2.1)))))))].length≤VE.maxLen then
 k (a0,a1,a2,y1.2.2.2.2.2.2.1,y1.2.2.2.2.2.2.2.1,y1h.1,[(y1.1,(y1.2.1,(y1.2.2.1,(y1.2.2.2.1,(y1h.2.1,(y1h.2.2,(y1.2.2.2.2.1,y1.2.2.2.2.2.1)))))))])
 else none)
def wrf:=shut wpa
theorem ww8:wrf=wpa:=vaj _
instance n38n_p (a0:Int)(a1:Int)(a2:(List vaa))(a3:ByteArray)(a4:Int)(a5:Bool):ParC (wrf a0 a1 a2 a3 a4 a5):=by rw [ww8];unfold wpa;(try dsimp only);infer_instance
def wa4 (a0:Int)(a1:Int)(a2:(List vaa))(a3:(List dTxn))(a4:ByteArray)(a5:Int)(a6:Bool)(k:q63T→Option Res):Option Res:=
 vrm a4 a5 a6 (fun y1=>
 let y1h:=y1.2.2.2.2.2.2.2.2
 if a3.length+[(y1.1,(y1.2.1,(y1.2.2.1,(y1.2.2.2.1,(y1h.2.1,(y1h.2.2,(y1.2.2.2.2.1,y1.2.2.2.2.2.1)))))))].length≤VE.maxLen then
 k (a0,a1,a2,y1.2.2.2.2.2.2.1,y1.2.2.2.2.2.2.2.1,y1h.1,(a3++[(y1.1,(y1.2.1,(y1.2.2.1,(y1.2.2.2.1,(y1h.2.1,(y1h.2.2,(y1.2.2.2.2.1,y1.2.2.2.2.2.1)))))))]))
 else none)
def wi0:=shut wa4
theorem whk:wi0=wa4:=vaj _
instance n39n_p (a0:Int)(a1:Int)(a2:(List vaa))(a3:(List dTxn))(a4:ByteArray)(a5:Int)(a6:Bool):ParC (wi0 a0 a1 a2 a3 a4 a5 a6):=by rw [whk];unfold wa4;(try dsimp only);infer_instance
def vd9 (x:q68T)(k:q68T→Option Res):Option Res:=
 wi0 x.2.2.2.2.2.1 x.2.2.2.2.2.2.1 x.2.2.2.2.2.2.2.1 x.2.2.2.2.2.2.2.2 x.2.2.1 x.2.2.2.1 x.2.2.2.2.1 (fun y4=>
 k (x.1,(IntKind.wrap .i64 (x.2.1+1)),y4.2.2.2.1,y4.2.2.2.2.1,y4.2.2.2.2.2.1,y4.1,y4.2.1,y4.2.2.1,y4.2.2.2.2.2.2))
instance n43n_jp6000001 (x:q68T):ParC (vd9 x):=by unfold vd9;(try dsimp only);infer_instance
def vle (x:q68T)(k:q68T⊕q68T→Option Res):Option Res:=
 let xh:=x.2.2.2.2.2.2.2.2
 bif (decide (x.2.1<x.1))then
 bif (!x.2.2.2.2.1)then
 vd9 (x.1,x.2.1,x.2.2.1,x.2.2.2.1,x.2.2.2.2.1,x.2.2.2.2.2.1,x.2.2.2.2.2.2.1,x.2.2.2.2.2.2.2.1,xh) (fun z3=>
 k (.inl (z3.1,z3.2.1,z3.2.2.1,z3.2.2.2.1,z3.2.2.2.2.1,z3.2.2.2.2.2.1,z3.2.2.2.2.2.2.1,z3.2.2.2.2.2.2.2.1,z3.2.2.2.2.2.2.2.2)))
 else
 k (.inr (x.1,x.2.1,x.2.2.1,x.2.2.2.1,x.2.2.2.2.1,x.2.2.2.2.2.1,x.2.2.2.2.2.2.1,x.2.2.2.2.2.2.2.1,xh))
 else
 k (.inr (x.1,x.2.1,x.2.2.1,x.2.2.2.1,x.2.2.2.2.1,x.2.2.2.2.2.1,x.2.2.2.2.2.2.1,x.2.2.2.2.2.2.2.1,xh))
instance n43n_bp0 (x:q68T):ParC (vle x):=by unfold vle;(try dsimp only);infer_instance
def wg0 (a0:ByteArray)(a1:Int)(a2:Bool)(a3:Int)(a4:Int)(a5:(List vaa))(k:q48T→Option Res):Option Res:=
 vgz a0 a1 a2 (fun y1=>
 vae vle Fuel (y1.1,0,y1.2.1,y1.2.2.1,y1.2.2.2,a3,a4,a5,([]:List dTxn)) (fun z2=>
 k (z2.2.2.1,z2.2.2.2.1,z2.2.2.2.2.1,z2.2.2.2.2.2.1,z2.2.2.2.2.2.2.1,z2.2.2.2.2.2.2.2.1,z2.2.2.2.2.2.2.2.2)))
def v3w:=shut wg0
theorem wm7:v3w=wg0:=vaj _
instance n43n_p (a0:ByteArray)(a1:Int)(a2:Bool)(a3:Int)(a4:Int)(a5:(List vaa)):ParC (v3w a0 a1 a2 a3 a4 a5):=by rw [wm7];unfold wg0;(try dsimp only);infer_instance
def wnm (a0:Int)(a1:Int)(a2:(List vaa))(a3:(List dTxn))(a4:ByteArray)(a5:Int)(a6:Bool)(k:q62T→Option Res):Option Res:=
 vrm a4 a5 a6 (fun y1=>
 let y1h:=y1.2.2.2.2.2.2.2.2
 if [(y1.1,(y1.2.1,(y1.2.2.1,(y1.2.2.2.1,(y1h.2.1,(y1h.2.2,(y1.2.2.2.2.1,y1.2.2.2.2.2.1)))))))].length≤VE.maxLen then
 k (a0,a1,a2,a3,y1.2.2.2.2.2.2.1,y1.2.2.2.2.2.2.2.1,y1h.1,[(y1.1,(y1.2.1,(y1.2.2.1,(y1.2.2.2.1,(y1h.2.1,(y1h.2.2,(y1.2.2.2.2.1,y1.2.2.2.2.2.1)))))))])
 else none)
def wpe:=shut wnm
theorem wx4:wpe=wnm:=vaj _
instance n40n_p (a0:Int)(a1:Int)(a2:(List vaa))(a3:(List dTxn))(a4:ByteArray)(a5:Int)(a6:Bool):ParC (wpe a0 a1 a2 a3 a4 a5 a6):=by rw [wx4];unfold wnm;(try dsimp only);infer_instance
def v8v (a0:Int)(a1:Int)(a2:(List vaa))(a3:(List dTxn))(a4:(List dTxn))(a5:ByteArray)(a6:Int)(a7:Bool)(k:q62T→Option Res):Option Res:=
 vrm a5 a6 a7 (fun y1=>
 let y1h:=y1.2.2.2.2.2.2.2.2
 if a4.length+[(y1.1,(y1.2.1,(y1.2.2.1,(y1.2.2.2.1,(y1h.2.1,(y1h.2.2,(y1.2.2.2.2.1,y1.2.2.2.2.2.1)))))))].length≤VE.maxLen then
 k (a0,a1,a2,a3,y1.2.2.2.2.2.2.1,y1.2.2.2.2.2.2.2.1,y1h.1,(a4++[(y1.1,(y1.2.1,(y1.2.2.1,(y1.2.2.2.1,(y1h.2.1,(y1h.2.2,(y1.2.2.2.2.1,y1.2.2.2.2.2.1)))))))]))
 else none)
def wh5:=shut v8v
theorem wgz:wh5=v8v:=vaj _
instance n41n_p (a0:Int)(a1:Int)(a2:(List vaa))(a3:(List dTxn))(a4:(List dTxn))(a5:ByteArray)(a6:Int)(a7:Bool):ParC (wh5 a0 a1 a2 a3 a4 a5 a6 a7):=by rw [wgz];unfold v8v;(try dsimp only);infer_instance
def vec (x:q67T)(k:q67T→Option Res):Option Res:=
 let xh:=x.2.2.2.2.2.2.2.2
 wh5 x.2.2.2.2.2.1 x.2.2.2.2.2.2.1 x.2.2.2.2.2.2.2.1 xh.1 xh.2 x.2.2.1 x.2.2.2.1 x.2.2.2.2.1 (fun y4=>
 k (x.1,(IntKind.wrap .i64 (x.2.1+1)),y4.2.2.2.2.1,y4.2.2.2.2.2.1,y4.2.2.2.2.2.2.1,y4.1,y4.2.1,y4.2.2.1,y4.2.2.2.1,y4.2.2.2.2.2.2.2))
instance n44n_jp6000001 (x:q67T):ParC (vec x):=by unfold vec;(try dsimp only);infer_instance
def vkv (x:q67T)(k:q67T⊕q67T→Option Res):Option Res:=
 let xh:=x.2.2.2.2.2.2.2.2
 bif (decide (x.2.1<x.1))then
 bif (!x.2.2.2.2.1)then
 vec (x.1,x.2.1,x.2.2.1,x.2.2.2.1,x.2.2.2.2.1,x.2.2.2.2.2.1,x.2.2.2.2.2.2.1,x.2.2.2.2.2.2.2.1,xh.1,xh.2) (fun z3=>
 let z3h:=z3.2.2.2.2.2.2.2.2
 k (.inl (z3.1,z3.2.1,z3.2.2.1,z3.2.2.2.1,z3.2.2.2.2.1,z3.2.2.2.2.2.1,z3.2.2.2.2.2.2.1,z3.2.2.2.2.2.2.2.1,z3h.1,z3h.2)))
 else
 k (.inr (x.1,x.2.1,x.2.2.1,x.2.2.2.1,x.2.2.2.2.1,x.2.2.2.2.2.1,x.2.2.2.2.2.2.1,x.2.2.2.2.2.2.2.1,xh.1,xh.2))
 else
 k (.inr (x.1,x.2.1,x.2.2.1,x.2.2.2.1,x.2.2.2.2.1,x.2.2.2.2.2.1,x.2.2.2.2.2.2.1,x.2.2.2.2.2.2.2.1,xh.1,xh.2))
instance n44n_bp0 (x:q67T):ParC (vkv x):=by unfold vkv;(try dsimp only);infer_instance
def wfs (a0:ByteArray)(a1:Int)(a2:Bool)(a3:Int)(a4:Int)(a5:(List vaa))(a6:(List dTxn))(k:q47T→Option Res):Option Res:=
 vgz a0 a1 a2 (fun y1=>
 vae vkv Fuel (y1.1,0,y1.2.1,y1.2.2.1,y1.2.2.2,a3,a4,a5,a6,([]:List dTxn)) (fun z2=>
 let z2h:=z2.2.2.2.2.2.2.2.2
 k (z2.2.2.1,z2.2.2.2.1,z2.2.2.2.2.1,z2.2.2.2.2.2.1,z2.2.2.2.2.2.2.1,z2.2.2.2.2.2.2.2.1,z2h.1,z2h.2)))
def v3b:=shut wfs
theorem wmw:v3b=wfs:=vaj _
instance n44n_p (a0:ByteArray)(a1:Int)(a2:Bool)(a3:Int)(a4:Int)(a5:(List vaa))(a6:(List dTxn)):ParC (v3b a0 a1 a2 a3 a4 a5 a6):=by rw [wmw];unfold wfs;(try dsimp only);infer_instance
def whv (a0:ByteArray)(k:Bool→Option Res):Option Res:=
 k (!(vap a0 a0))
def wbh:=shut whv
theorem wpx:wbh=whv:=vaj _
instance n03n_p (a0:ByteArray):ParC (wbh a0):=by rw [wpx];unfold whv;(try dsimp only);infer_instance
def wiw (a0:ByteArray)(a1:ByteArray)(k:Int→Option Res):Option Res:=
 wbh a0 (fun y1=>
 wbh a1 (fun y2=>
 bif y1 then
 bif y2 then
 k (0:Int)
 else
 k (-1:Int)
 else
 bif y2 then
 k (1:Int)
 else
 bif (va3 a0 a1)then
 k (-1:Int)
 else
 bif (!((va3 a0 a1)||(vap a0 a1)))then
 k (1:Int)
 else
 k (0:Int)))
def v9i:=shut wiw
theorem wn3:v9i=wiw:=vaj _
instance n01n_p (a0:ByteArray)(a1:ByteArray):ParC (v9i a0 a1):=by rw [wn3];unfold wiw;(try dsimp only);infer_instance
def whf (a0:Int)(k:Bool→Option Res):Option Res:=
 k (a0 != a0)
def v9c:=shut whf
theorem wnx:v9c=whf:=vaj _
instance n02n_p (a0:Int):ParC (v9c a0):=by rw [wnx];unfold whf;(try dsimp only);infer_instance
def wfu (a0:Int)(a1:Int)(k:Int→Option Res):Option Res:=
 v9c a0 (fun y1=>
 v9c a1 (fun y2=>
 bif y1 then
 bif y2 then
 k (0:Int)
 else
 k (-1:Int)
 else
 bif y2 then
 k (1:Int)
 else
 bif (decide (a0<a1))then
 k (-1:Int)
 else
 bif (decide (a0>a1))then
 k (1:Int)
 else
 k (0:Int)))
def wbd:=shut wfu
theorem wp4:wbd=wfu:=vaj _
instance n00n_p (a0:Int)(a1:Int):ParC (wbd a0 a1):=by rw [wp4];unfold wfu;(try dsimp only);infer_instance
def whx (a0:vaa)(a1:vaa)(k:Int→Option Res):Option Res:=
 v9i a0.1 a1.1 (fun y1=>
 bif (y1 != (0:Int))then
 k y1
 else
 wbd a0.2.2.2 a1.2.2.2 (fun y2=>
 k y2))
def vv1:=shut whx
theorem wrl:vv1=whx:=vaj _
instance n24n_p (a0:vaa)(a1:vaa):ParC (vv1 a0 a1):=by rw [wrl];unfold whx;(try dsimp only);infer_instance
def vp0 (x:q13T)(k:q13T⊕(q13T⊕q13T)→Option Res):Option Res:=
 let t0:=(rd (Ty.zero tVersion) x.2.2.1 x.2.2.2.2)
 let t1:=(x.1,false,x.2.2.1,x.2.2.2.1,x.2.2.2.2)
 let t2:=(x.1,x.2.1,x.2.2.1,x.2.2.2.1,(IntKind.wrap .i64 (x.2.2.2.2+(1:Int))))
 let t3:=(IntKind.wrap .i64 (x.2.2.2.2-(1:Int)))
 bif (decide (x.2.2.2.2<x.2.2.2.1))then
 if 0≤x.2.2.2.2∧x.2.2.2.2<(x.2.2.1.length:Int)then
 vjs (t0.1) (fun y3=>
 bif (!y3)then
 k (.inr (.inl t1))
 else
 bif (decide ((t0.2.1.size:Int)>(12:Int)))then
 k (.inr (.inl t1))
 else
 bif t0.2.2.1 then
 bif (!(vap (t0.2.1) (⟨#[]⟩:ByteArray)))then
 k (.inr (.inl t1))
 else
 vdl (t0.2.2.2) (1:Int) (9999:Int) (fun y4=>
 bif (!y4)then
 k (.inr (.inl t1))
 else
 bif (decide (x.2.2.2.2>0))then
 if 0≤t3∧t3<(x.1.length:Int)then
 vv1 (rd (Ty.zero tVersion) x.1 t3) t0 (fun y5=>
 bif (decide (y5≥0))then
 k (.inr (.inl t1))
 else
 k (.inl t2))
 else none
 else
 k (.inl t2))
 else
 vdl (t0.2.2.2) (1:Int) (9999:Int) (fun y6=>
 bif (!y6)then
 k (.inr (.inl t1))
 else
 bif (decide (x.2.2.2.2>0))then
 if 0≤t3∧t3<(x.1.length:Int)then
 vv1 (rd (Ty.zero tVersion) x.1 t3) t0 (fun y7=>
 bif (decide (y7≥0))then
 k (.inr (.inl t1))
 else
 k (.inl t2))
 else none
 else
 k (.inl t2)))
 else none
 else
 k (.inr (.inr (x.1,x.2.1,x.2.2.1,x.2.2.2.1,x.2.2.2.2)))
instance n21n_bp0 (x:q13T):ParC (vp0 x):=by unfold vp0;(try dsimp only);exact⟨(vaf (vbo ((n06n_p _).p.bind fun y3=>(vaf (vab _) (vaf (vab _) (vaf (vaf (vab _) ((n56n_p _ _ _).p.bind fun y4=>(vaf (vab _) (vaf (vbo ((n24n_p _ _).p.bind fun y5=>(vaf (vab _) (vab _))) va5) (vab _))))) ((n56n_p _ _ _).p.bind fun y6=>(vaf (vab _) (vaf (vbo ((n24n_p _ _).p.bind fun y7=>(vaf (vab _) (vab _))) va5) (vab _)))))))) va5) (vab _))⟩
def wih (a0:(List vaa))(k:Bool→Option Res):Option Res:=
 vae vp0 Fuel (a0,false,a0,(a0.length:Int),0) (Sum.elim (fun z1=>
 k z1.2.1) (fun z2=>
 k (decide ((z2.1.length:Int)≤(120:Int)))))
def vzv:=shut wih
theorem wq7:vzv=wih:=vaj _
instance n21n_p (a0:(List vaa)):ParC (vzv a0):=by rw [wq7];unfold wih;(try dsimp only);infer_instance
def wmx (a0:dTxn)(k:Bool→Option Res):Option Res:=
 k (a0.2.1==(3:Int))
def vvi:=shut wmx
theorem won:vvi=wmx:=vaj _
instance n29n_p (a0:dTxn):ParC (vvi a0):=by rw [won];unfold wmx;(try dsimp only);infer_instance
def wqv (a0:dTxn)(k:Bool→Option Res):Option Res:=
 k (a0.2.1==(2:Int))
def vvg:=shut wqv
theorem wrj:vvg=wqv:=vaj _
instance n30n_p (a0:dTxn):ParC (vvg a0):=by rw [wrj];unfold wqv;(try dsimp only);infer_instance
def wh3 (a0:Int)(k:((List dTxn)⊕(List dTxn))→Option Res):Option Res:=
 bif (decide (a0<0))then
 none
 else
 bif (decide ((IntKind.wrap .i64 (a0-(IntKind.wrap .i64 ((0:Int)-0))))>(0:Int)))then
 if 0≤(0:Int)∧(0:Int)≤(0:Int)∧(0:Int)≤0 then
 if 0≤(IntKind.wrap .i64 (a0-(IntKind.wrap .i64 ((0:Int)-0))))∧(IntKind.wrap .i64 (a0-(IntKind.wrap .i64 ((0:Int)-0))))≤(VE.maxLen:Int)then
 if 0≤(0:Int)∧(0:Int)≤((List.replicate (IntKind.wrap .i64 (a0-(IntKind.wrap .i64 ((0:Int)-0)))).toNat (Ty.zero tTxn)).length:Int)then
 k (.inl ((List.replicate (IntKind.wrap .i64 (a0-(IntKind.wrap .i64 ((0:Int)-0)))).toNat (Ty.zero tTxn)).take (0:Int).toNat))
 else none
 else none
 else none
 else
 k (.inr ([]:List dTxn))
def v4u:=shut wh3
theorem wmk:v4u=wh3:=vaj _
instance n85n_p (a0:Int):ParC (v4u a0):=by rw [wmk];unfold wh3;(try dsimp only);infer_instance
def vpj (x:q0T)(k:q0T⊕q0T→Option Res):Option Res:=
 bif (decide (x.2.2.2.2<x.2.2.2.1))then
 if 0≤x.2.2.2.2∧x.2.2.2.2<(x.2.2.1.length:Int)then
 bif (decide ((IntKind.wrap .i64 (x.2.1+((rd (Ty.zero (.slice tTxn)) x.2.2.1 x.2.2.2.2).length:Int)))<(0:Int)))then
 none
 else
 k (.inl (x.1,(IntKind.wrap .i64 (x.2.1+((rd (Ty.zero (.slice tTxn)) x.2.2.1 x.2.2.2.2).length:Int))),x.2.2.1,x.2.2.2.1,(IntKind.wrap .i64 (x.2.2.2.2+1))))
 else none
 else
 k (.inr (x.1,x.2.1,x.2.2.1,x.2.2.2.1,x.2.2.2.2))
instance n83n_bp0 (x:q0T):ParC (vpj x):=by unfold vpj;(try dsimp only);infer_instance
def vez (x:(q1T⊕q1T))(k:(q1T⊕q1T)⊕(q1T⊕q1T)→Option Res):Option Res:=
 (Sum.elim (fun x=>
 bif (decide (x.2.2.1<x.2.1))then
 if 0≤x.2.2.1∧x.2.2.1<(x.1.length:Int)then
 if x.2.2.2.length+(rd (Ty.zero (.slice tTxn)) x.1 x.2.2.1).length≤VE.maxLen then
 k (.inl (.inl (x.1,x.2.1,(IntKind.wrap .i64 (x.2.2.1+1)),(x.2.2.2++(rd (Ty.zero (.slice tTxn)) x.1 x.2.2.1)))))
 else none
 else none
 else
 k (.inr (.inl (x.1,x.2.1,x.2.2.1,x.2.2.2)))) (fun x=>
 bif (decide (x.2.2.1<x.2.1))then
 if 0≤x.2.2.1∧x.2.2.1<(x.1.length:Int)then
 if x.2.2.2.length+(rd (Ty.zero (.slice tTxn)) x.1 x.2.2.1).length≤VE.maxLen then
 k (.inl (.inl (x.1,x.2.1,(IntKind.wrap .i64 (x.2.2.1+1)),(x.2.2.2++(rd (Ty.zero (.slice tTxn)) x.1 x.2.2.1)))))
 else none
 else none
 else
 k (.inr (.inr (x.1,x.2.1,x.2.2.1,x.2.2.2))))) x
instance n83n_bp2 (x:(q1T⊕q1T)):ParC (vez x):=by
 unfold vez
 rcases x with x|x
 ·simp only [Sum.elim_inl]
  infer_instance
 ·simp only [Sum.elim_inr]
  (try dsimp only)
  infer_instance
def whi (a0:(List (List dTxn)))(k:((List dTxn)⊕(List dTxn))→Option Res):Option Res:=
 vae vpj Fuel (a0,0,a0,(a0.length:Int),0) (fun z1=>
 v4u z1.2.1 (Sum.elim (fun y2=>
 vae vez Fuel (.inl (z1.1,(z1.1.length:Int),0,y2)) (Sum.elim (fun z3=>
 k (.inl z3.2.2.2)) (fun z4=>
 k (.inr z4.2.2.2)))) (fun y5=>
 vae vez Fuel (.inr (z1.1,(z1.1.length:Int),0,y5)) (Sum.elim (fun z6=>
 k (.inl z6.2.2.2)) (fun z7=>
 k (.inr z7.2.2.2))))))
def vvv:=shut whi
theorem wp1:vvv=whi:=vaj _
instance n83n_p (a0:(List (List dTxn))):ParC (vvv a0):=by rw [wp1];unfold whi;(try dsimp only);exact⟨((vbz (fun x=>(n83n_bp0 x).p) _ _).bind fun z1=>((n85n_p _).p.bind2 (fun y2=>((vbz (fun x=>(n83n_bp2 x).p) _ _).bind2 (fun z3=>(vab _)) (fun z4=>(vab _)))) (fun y5=>((vbz (fun x=>(n83n_bp2 x).p) _ _).bind2 (fun z6=>(vab _)) (fun z7=>(vab _))))))⟩
def wqa (a0:dTxn)(a1:Int)(a2:Int)(a3:Int)(a4:Int)(a5:(List vai))(a6:(List vag))(a7:Bool)(a8:ByteArray)(k:q31T→Option Res):Option Res:=
 k ((a0.1==a1),a1,a2,a3,a4,a5,a6,a7,a8)
def v31:=shut wqa
theorem wpi:v31=wqa:=vaj _
instance n28n_p (a0:dTxn)(a1:Int)(a2:Int)(a3:Int)(a4:Int)(a5:(List vai))(a6:(List vag))(a7:Bool)(a8:ByteArray):ParC (v31 a0 a1 a2 a3 a4 a5 a6 a7 a8):=by rw [wpi];unfold wqa;(try dsimp only);infer_instance
def vob (x:q10T)(k:q10T⊕(q10T⊕q10T)→Option Res):Option Res:=
 let xh:=x.2.2.2.2.2.2.2.2
 bif (decide (x.2.2.2.1<x.2.2.1))then
 if 0≤x.2.2.2.1∧x.2.2.2.1<(x.1.length:Int)then
 v31 (rd (Ty.zero tTxn) x.1 x.2.2.2.1) x.2.2.2.2.1 x.2.2.2.2.2.1 x.2.2.2.2.2.2.1 x.2.2.2.2.2.2.2.1 xh.1 xh.2.1 xh.2.2.1 xh.2.2.2 (fun y3=>
 let y3h:=y3.2.2.2.2.2.2.2.2
 bif y3.1 then
 k (.inr (.inl (x.1,x.2.2.2.1,x.2.2.1,x.2.2.2.1,y3.2.1,y3.2.2.1,y3.2.2.2.1,y3.2.2.2.2.1,y3.2.2.2.2.2.1,y3.2.2.2.2.2.2.1,y3.2.2.2.2.2.2.2.1,y3h)))
 else
 k (.inl (x.1,x.2.1,x.2.2.1,(IntKind.wrap .i64 (x.2.2.2.1+1)),y3.2.1,y3.2.2.1,y3.2.2.2.1,y3.2.2.2.2.1,y3.2.2.2.2.2.1,y3.2.2.2.2.2.2.1,y3.2.2.2.2.2.2.2.1,y3h)))
 else none
 else
 k (.inr (.inr (x.1,x.2.1,x.2.2.1,x.2.2.2.1,x.2.2.2.2.1,x.2.2.2.2.2.1,x.2.2.2.2.2.2.1,x.2.2.2.2.2.2.2.1,xh.1,xh.2.1,xh.2.2.1,xh.2.2.2)))
instance n86n_bp0 (x:q10T):ParC (vob x):=by unfold vob;(try dsimp only);infer_instance
def wg2 (a0:(List dTxn))(a1:Int)(a2:Int)(a3:Int)(a4:Int)(a5:(List vai))(a6:(List vag))(a7:Bool)(a8:ByteArray)(k:q80T→Option Res):Option Res:=
 vae vob Fuel (a0,0,(a0.length:Int),0,a1,a2,a3,a4,a5,a6,a7,a8) (Sum.elim (fun z1=>
 let z1h:=z1.2.2.2.2.2.2.2.2
 k (z1.2.1,z1.2.2.2.2.1,z1.2.2.2.2.2.1,z1.2.2.2.2.2.2.1,z1.2.2.2.2.2.2.2.1,z1h.1,z1h.2.1,z1h.2.2.1,z1h.2.2.2)) (fun z2=>
 let z2h:=z2.2.2.2.2.2.2.2.2
 k ((-1:Int),z2.2.2.2.2.1,z2.2.2.2.2.2.1,z2.2.2.2.2.2.2.1,z2.2.2.2.2.2.2.2.1,z2h.1,z2h.2.1,z2h.2.2.1,z2h.2.2.2)))
def v83:=shut wg2
theorem wm2:v83=wg2:=vaj _
instance n86n_p (a0:(List dTxn))(a1:Int)(a2:Int)(a3:Int)(a4:Int)(a5:(List vai))(a6:(List vag))(a7:Bool)(a8:ByteArray):ParC (v83 a0 a1 a2 a3 a4 a5 a6 a7 a8):=by rw [wm2];unfold wg2;(try dsimp only);infer_instance
def wgf (a0:(List dTxn))(a1:Int)(a2:Int)(a3:Int)(a4:Int)(a5:(List vai))(a6:(List vag))(a7:Bool)(a8:ByteArray)(k:q31T→Option Res):Option Res:=
 v83 a0 a1 a2 a3 a4 a5 a6 a7 a8 (fun y1=>
 k ((decide (y1.1≥0)),y1.2.1,y1.2.2.1,y1.2.2.2.1,y1.2.2.2.2.1,y1.2.2.2.2.2.1,y1.2.2.2.2.2.2.1,y1.2.2.2.2.2.2.2.1,y1.2.2.2.2.2.2.2.2))
def whs:=shut wgf
theorem wrn:whs=wgf:=vaj _
instance n84n_p (a0:(List dTxn))(a1:Int)(a2:Int)(a3:Int)(a4:Int)(a5:(List vai))(a6:(List vag))(a7:Bool)(a8:ByteArray):ParC (whs a0 a1 a2 a3 a4 a5 a6 a7 a8):=by rw [wrn];unfold wgf;(try dsimp only);infer_instance
def wh6 (a0:(List dTxn))(a1:Int)(a2:Int)(a3:Int)(a4:Int)(a5:(List vai))(a6:(List vag))(a7:Bool)(a8:ByteArray)(k:q31T→Option Res):Option Res:=
 whs a0 a1 a2 a3 a4 a5 a6 a7 a8 (fun y1=>
 k (y1.1,y1.2.1,y1.2.2.1,y1.2.2.2.1,y1.2.2.2.2.1,y1.2.2.2.2.2.1,y1.2.2.2.2.2.2.1,y1.2.2.2.2.2.2.2.1,y1.2.2.2.2.2.2.2.2))
def v5c:=shut wh6
theorem wp3:v5c=wh6:=vaj _
instance n55n_p (a0:(List dTxn))(a1:Int)(a2:Int)(a3:Int)(a4:Int)(a5:(List vai))(a6:(List vag))(a7:Bool)(a8:ByteArray):ParC (v5c a0 a1 a2 a3 a4 a5 a6 a7 a8):=by rw [wp3];unfold wh6;(try dsimp only);infer_instance
def vpu (x:q9T)(k:q9T⊕(q9T⊕q9T)→Option Res):Option Res:=
 let t0:=(rd (Ty.zero tTxn) x.2.2.2.1 x.2.2.2.2.2)
 bif (decide (x.2.2.2.2.2<x.2.2.2.2.1))then
 if 0≤x.2.2.2.2.2∧x.2.2.2.2.2<(x.2.2.2.1.length:Int)then
 bif (decide (t0.1≥x.2.1))then
 k (.inr (.inl (x.1,x.2.1,false,x.2.2.2.1,x.2.2.2.2.1,x.2.2.2.2.2)))
 else
 if 0≤(0:Int)∧(0:Int)≤x.2.2.2.2.2∧x.2.2.2.2.2≤(x.1.length:Int)then
 v5c ((x.1.take x.2.2.2.2.2.toNat).drop (0:Int).toNat) (t0.1) (t0.2.1) (t0.2.2.1) (t0.2.2.2.1) (t0.2.2.2.2.1) (t0.2.2.2.2.2.1) (t0.2.2.2.2.2.2.1) (t0.2.2.2.2.2.2.2) (fun y3=>
 bif y3.1 then
 k (.inr (.inl (x.1,x.2.1,false,x.2.2.2.1,x.2.2.2.2.1,x.2.2.2.2.2)))
 else
 k (.inl (x.1,x.2.1,x.2.2.1,x.2.2.2.1,x.2.2.2.2.1,(IntKind.wrap .i64 (x.2.2.2.2.2+1)))))
 else none
 else none
 else
 k (.inr (.inr (x.1,x.2.1,x.2.2.1,x.2.2.2.1,x.2.2.2.2.1,x.2.2.2.2.2)))
instance n27n_bp0 (x:q9T):ParC (vpu x):=by unfold vpu;(try dsimp only);infer_instance
def wg8 (a0:(List dTxn))(a1:Int)(k:Bool→Option Res):Option Res:=
 vae vpu Fuel (a0,a1,false,a0,(a0.length:Int),0) (Sum.elim (fun z1=>
 k z1.2.2.1) (fun _=>
 k true))
def vt8:=shut wg8
theorem wp7:vt8=wg8:=vaj _
instance n27n_p (a0:(List dTxn))(a1:Int):ParC (vt8 a0 a1):=by rw [wp7];unfold wg8;(try dsimp only);infer_instance
def voy (x:q24T)(k:q24T⊕(q24T⊕q24T)→Option Res):Option Res:=
 let xh:=x.2.2.2.2.2.2.2.2
 bif (decide (x.2.2.2.1<x.2.2.1))then
 if 0≤x.2.2.2.1∧x.2.2.2.1<(x.2.1.length:Int)then
 bif (decide ((rd (Ty.zero tVersion) x.2.1 x.2.2.2.1).2.2.2>x.2.2.2.2.2.2.2.1))then
 k (.inr (.inl (false,x.2.1,x.2.2.1,x.2.2.2.1,x.2.2.2.2.1,x.2.2.2.2.2.1,x.2.2.2.2.2.2.1,x.2.2.2.2.2.2.2.1,xh)))
 else
 k (.inl (x.1,x.2.1,x.2.2.1,(IntKind.wrap .i64 (x.2.2.2.1+1)),x.2.2.2.2.1,x.2.2.2.2.2.1,x.2.2.2.2.2.2.1,x.2.2.2.2.2.2.2.1,xh))
 else none
 else
 k (.inr (.inr (x.1,x.2.1,x.2.2.1,x.2.2.2.1,x.2.2.2.2.1,x.2.2.2.2.2.1,x.2.2.2.2.2.2.1,x.2.2.2.2.2.2.2.1,xh)))
instance n04n_bp0 (x:q24T):ParC (voy x):=by unfold voy;(try dsimp only);infer_instance
def vps (x:q22T)(k:q22T⊕(q22T⊕q22T)→Option Res):Option Res:=
 let xh:=x.2.2.2.2.2.2.2.2
 let t0:=(false,x.2.1,x.2.2.1,x.2.2.2.1,x.2.2.2.2.1,x.2.2.2.2.2.1,x.2.2.2.2.2.2.1,x.2.2.2.2.2.2.2.1,xh)
 let t1:=(x.1,x.2.1,x.2.2.1,(IntKind.wrap .i64 (x.2.2.2.1+(1:Int))),x.2.2.2.2.1,x.2.2.2.2.2.1,x.2.2.2.2.2.2.1,x.2.2.2.2.2.2.2.1,xh)
 let t2:=(rd (Ty.zero tTxn) x.2.1 x.2.2.2.1)
 bif (decide (x.2.2.2.1<x.2.2.1))then
 if 0≤x.2.2.2.1∧x.2.2.2.1<(x.2.1.length:Int)then
 vhg t2 (fun y5=>
 bif (!y5)then
 k (.inr (.inl t0))
 else
 vvi t2 (fun y6=>
 bif (!y6)then
 k (.inr (.inl t0))
 else
 bif (decide (t2.2.2.2.1>x.2.2.2.2.2.2.2.1))then
 k (.inr (.inl t0))
 else
 bif (decide (x.2.2.2.1>0))then
 if 0≤(IntKind.wrap .i64 (x.2.2.2.1-1))∧(IntKind.wrap .i64 (x.2.2.2.1-1))<(x.2.2.2.2.2.1.length:Int)then
 bif (decide ((rd (Ty.zero tTxn) x.2.2.2.2.2.1 (IntKind.wrap .i64 (x.2.2.2.1-1))).2.2.2.1≥t2.2.2.2.1))then
 k (.inr (.inl t0))
 else
 k (.inl t1)
 else none
 else
 k (.inl t1)))
 else none
 else
 k (.inr (.inr (x.1,x.2.1,x.2.2.1,x.2.2.2.1,x.2.2.2.2.1,x.2.2.2.2.2.1,x.2.2.2.2.2.2.1,x.2.2.2.2.2.2.2.1,xh)))
instance n04n_bp2 (x:q22T):ParC (vps x):=by unfold vps;(try dsimp only);infer_instance
def vn2 (x:q22T)(k:q22T⊕(q22T⊕q22T)→Option Res):Option Res:=
 let xh:=x.2.2.2.2.2.2.2.2
 let t0:=(false,x.2.1,x.2.2.1,x.2.2.2.1,x.2.2.2.2.1,x.2.2.2.2.2.1,x.2.2.2.2.2.2.1,x.2.2.2.2.2.2.2.1,xh)
 let t1:=(x.1,x.2.1,x.2.2.1,(IntKind.wrap .i64 (x.2.2.2.1+(1:Int))),x.2.2.2.2.1,x.2.2.2.2.2.1,x.2.2.2.2.2.2.1,x.2.2.2.2.2.2.2.1,xh)
 let t2:=(rd (Ty.zero tTxn) x.2.1 x.2.2.2.1)
 bif (decide (x.2.2.2.1<x.2.2.1))then
 if 0≤x.2.2.2.1∧x.2.2.2.1<(x.2.1.length:Int)then
 vhg t2 (fun y7=>
 bif (!y7)then
 k (.inr (.inl t0))
 else
 vvg t2 (fun y8=>
 bif (!y8)then
 k (.inr (.inl t0))
 else
 bif (decide (t2.2.2.1>x.2.2.2.2.2.2.2.1))then
 k (.inr (.inl t0))
 else
 bif (decide (x.2.2.2.1>0))then
 if 0≤(IntKind.wrap .i64 (x.2.2.2.1-1))∧(IntKind.wrap .i64 (x.2.2.2.1-1))<(x.2.2.2.2.2.2.1.length:Int)then
 bif (!(va3 ((rd (Ty.zero tTxn) x.2.2.2.2.2.2.1 (IntKind.wrap .i64 (x.2.2.2.1-1))).2.2.2.2.2.2.2) (t2.2.2.2.2.2.2.2)))then
 k (.inr (.inl t0))
 else
 k (.inl t1)
 else none
 else
 k (.inl t1)))
 else none
 else
 k (.inr (.inr (x.1,x.2.1,x.2.2.1,x.2.2.2.1,x.2.2.2.2.1,x.2.2.2.2.2.1,x.2.2.2.2.2.2.1,x.2.2.2.2.2.2.2.1,xh)))
instance n04n_bp4 (x:q22T):ParC (vn2 x):=by unfold vn2;(try dsimp only);infer_instance
def vd7 (x:q23T)(k:q23T→Option Res):Option Res:=
 vae voy Fuel (x.1,x.2.1,(x.2.1.length:Int),0,x.2.1,x.2.2.1,x.2.2.2.1,x.2.2.2.2.1,x.2.2.2.2.2) (Sum.elim (fun z9=>
 k (z9.1,z9.2.2.2.2.1,z9.2.2.2.2.2.1,z9.2.2.2.2.2.2.1,z9.2.2.2.2.2.2.2.1,z9.2.2.2.2.2.2.2.2)) (fun z10=>
 vae vps Fuel (z10.1,z10.2.2.2.2.2.1,(z10.2.2.2.2.2.1.length:Int),0,z10.2.2.2.2.1,z10.2.2.2.2.2.1,z10.2.2.2.2.2.2.1,z10.2.2.2.2.2.2.2.1,z10.2.2.2.2.2.2.2.2) (Sum.elim (fun z11=>
 k (z11.1,z11.2.2.2.2.1,z11.2.2.2.2.2.1,z11.2.2.2.2.2.2.1,z11.2.2.2.2.2.2.2.1,z11.2.2.2.2.2.2.2.2)) (fun z12=>
 vae vn2 Fuel (z12.1,z12.2.2.2.2.2.2.1,(z12.2.2.2.2.2.2.1.length:Int),0,z12.2.2.2.2.1,z12.2.2.2.2.2.1,z12.2.2.2.2.2.2.1,z12.2.2.2.2.2.2.2.1,z12.2.2.2.2.2.2.2.2) (Sum.elim (fun z13=>
 k (z13.1,z13.2.2.2.2.1,z13.2.2.2.2.2.1,z13.2.2.2.2.2.2.1,z13.2.2.2.2.2.2.2.1,z13.2.2.2.2.2.2.2.2)) (fun z14=>
 let z14h:=z14.2.2.2.2.2.2.2.2
 vvv [z14.2.2.2.2.2.1,z14.2.2.2.2.2.2.1] (Sum.elim (fun y15=>
 vt8 y15 z14h (fun y16=>
 k (y16,z14.2.2.2.2.1,z14.2.2.2.2.2.1,z14.2.2.2.2.2.2.1,z14.2.2.2.2.2.2.2.1,z14h))) (fun y17=>
 vt8 y17 z14h (fun y18=>
 k (y18,z14.2.2.2.2.1,z14.2.2.2.2.2.1,z14.2.2.2.2.2.2.1,z14.2.2.2.2.2.2.2.1,z14h))))))))))
instance n04n_jp5000003 (x:q23T):ParC (vd7 x):=by unfold vd7;(try dsimp only);exact⟨((vbz (fun x=>(n04n_bp0 x).p) _ _).bind2 (fun z9=>(vab _)) (fun z10=>((vbz (fun x=>(n04n_bp2 x).p) _ _).bind2 (fun z11=>(vab _)) (fun z12=>((vbz (fun x=>(n04n_bp4 x).p) _ _).bind2 (fun z13=>(vab _)) (fun z14=>((n83n_p _).p.bind2 (fun y15=>((n27n_p _ _).p.bind fun y16=>(vab _))) (fun y17=>((n27n_p _ _).p.bind fun y18=>(vab _))))))))))⟩
def wgy (a0:vfd)(k:Bool→Option Res):Option Res:=
 vzv a0.1 (fun y1=>
 bif (!y1)then
 k false
 else
 bif (decide ((a0.2.1.length:Int)>(12:Int)))then
 k false
 else
 bif (decide ((a0.2.2.1.length:Int)>(3:Int)))then
 k false
 else
 vdl a0.2.2.2.1 (0:Int) (9999:Int) (fun y2=>
 bif (!y2)then
 k false
 else
 vdl a0.2.2.2.2 (1:Int) (9999:Int) (fun y3=>
 bif (!y3)then
 k false
 else
 vd7 (false,a0.1,a0.2.1,a0.2.2.1,a0.2.2.2.1,a0.2.2.2.2) (fun z4=>
 k z4.1))))
def vrk:=shut wgy
theorem wln:vrk=wgy:=vaj _
instance n04n_p (a0:vfd):ParC (vrk a0):=by rw [wln];unfold wgy;(try dsimp only);infer_instance
def wik (a0:ByteArray)(a1:Int)(a2:Bool)(k:q64T→Option Res):Option Res:=
 vgz a0 a1 a2 (fun y1=>
 vgz y1.2.1 y1.2.2.1 y1.2.2.2 (fun y2=>
 v9g y2.2.1 y2.2.2.1 y2.2.2.2 y1.1 y2.1 (fun y3=>
 v3w y3.1 y3.2.1 y3.2.2.1 y3.2.2.2.1 y3.2.2.2.2.1 y3.2.2.2.2.2 (fun y4=>
 v3b y4.1 y4.2.1 y4.2.2.1 y4.2.2.2.1 y4.2.2.2.2.1 y4.2.2.2.2.2.1 y4.2.2.2.2.2.2 (fun y5=>
 bif y5.2.2.1 then
 k (y5.2.2.2.1,y5.2.2.2.2.1,y5.1,y5.2.1,true,y5.2.2.2.2.2.1,y5.2.2.2.2.2.2.1,y5.2.2.2.2.2.2.2)
 else
 vrk (y5.2.2.2.2.2.1,(y5.2.2.2.2.2.2.1,(y5.2.2.2.2.2.2.2,(y5.2.2.2.1,y5.2.2.2.2.1)))) (fun y6=>
 k (y5.2.2.2.1,y5.2.2.2.2.1,y5.1,y5.2.1,(!y6),y5.2.2.2.2.2.1,y5.2.2.2.2.2.2.1,y5.2.2.2.2.2.2.2)))))))
def v26:=shut wik
theorem wpj:v26=wik:=vaj _
instance n35n_p (a0:ByteArray)(a1:Int)(a2:Bool):ParC (v26 a0 a1 a2):=by rw [wpj];unfold wik;(try dsimp only);exact⟨((n48n_p _ _ _).p.bind fun y1=>((n48n_p _ _ _).p.bind fun y2=>((n42n_p _ _ _ _ _).p.bind fun y3=>((n43n_p _ _ _ _ _ _).p.bind fun y4=>((n44n_p _ _ _ _ _ _ _).p.bind fun y5=>(vaf (vab _) ((n04n_p _).p.bind fun y6=>(vab _))))))))⟩
def wgr (a0:dTxn)(k:Bool→Option Res):Option Res:=
 bif (a0.1==(0:Int))then
 bif (a0.2.1==(0:Int))then
 bif (a0.2.2.1==(0:Int))then
 bif (a0.2.2.2.1==(0:Int))then
 bif ((a0.2.2.2.2.1.length:Int)==(0:Int))then
 bif ((a0.2.2.2.2.2.1.length:Int)==(0:Int))then
 bif (!a0.2.2.2.2.2.2.1)then
 k (vap a0.2.2.2.2.2.2.2 (⟨#[]⟩:ByteArray))
 else
 k false
 else
 k false
 else
 k false
 else
 k false
 else
 k false
 else
 k false
 else
 k false
def v3y:=shut wgr
theorem wpt:v3y=wgr:=vaj _
instance n26n_p (a0:dTxn):ParC (v3y a0):=by rw [wpt];unfold wgr;(try dsimp only);infer_instance
def wfl (a0:vfd)(k:Bool→Option Res):Option Res:=
 bif ((a0.1.length:Int)==(0:Int))then
 bif ((a0.2.1.length:Int)==(0:Int))then
 bif ((a0.2.2.1.length:Int)==(0:Int))then
 bif (a0.2.2.2.1==(0:Int))then
 k (a0.2.2.2.2==(0:Int))
 else
 k false
 else
 k false
 else
 k false
 else
 k false
def v3u:=shut wfl
theorem wl1:v3u=wfl:=vaj _
instance n25n_p (a0:vfd):ParC (v3u a0):=by rw [wl1];unfold wfl;(try dsimp only);infer_instance
def vby (x:q25T)(k:q25T→Option Res):Option Res:=
 let xh:=x.2.2.2.2.2.2.2.2
 let xhh:=xh.2.2.2.2.2.2.2.2
 let t0:=(false,x.2.1,x.2.2.1,x.2.2.2.1,x.2.2.2.2.1,x.2.2.2.2.2.1,x.2.2.2.2.2.2.1,x.2.2.2.2.2.2.2.1,xh.1,xh.2.1,xh.2.2.1,xh.2.2.2.1,xh.2.2.2.2.1,xh.2.2.2.2.2.1,xh.2.2.2.2.2.2.1,xh.2.2.2.2.2.2.2.1,xhh.1,xhh.2.1,xhh.2.2.1,xhh.2.2.2)
 bif x.2.1 then
 bif x.2.2.1 then
 bif x.2.2.2.1 then
 bif (!xh.2.2.2.2.2.2.1)then
 k (true,x.2.1,x.2.2.1,x.2.2.2.1,x.2.2.2.2.1,x.2.2.2.2.2.1,x.2.2.2.2.2.2.1,x.2.2.2.2.2.2.2.1,xh.1,xh.2.1,xh.2.2.1,xh.2.2.2.1,xh.2.2.2.2.1,xh.2.2.2.2.2.1,xh.2.2.2.2.2.2.1,xh.2.2.2.2.2.2.2.1,xhh.1,xhh.2.1,xhh.2.2.1,xhh.2.2.2)
 else
 k ((x.2.2.2.2.1==(3:Int)),x.2.1,x.2.2.1,x.2.2.2.1,x.2.2.2.2.1,x.2.2.2.2.2.1,x.2.2.2.2.2.2.1,x.2.2.2.2.2.2.2.1,xh.1,xh.2.1,xh.2.2.1,xh.2.2.2.1,xh.2.2.2.2.1,xh.2.2.2.2.2.1,xh.2.2.2.2.2.2.1,xh.2.2.2.2.2.2.2.1,xhh.1,xhh.2.1,xhh.2.2.1,xhh.2.2.2)
 else
 k t0
 else
 k t0
 else
 k t0
instance n11n_jp5000012 (x:q25T):ParC (vby x):=by unfold vby;(try dsimp only);infer_instance
def wf2 (a0:vcd)(k:Bool→Option Res):Option Res:=
 v3y a0.2.1 (fun y1=>
 v3u a0.2.2.2.2 (fun y2=>
 bif (a0.1==(1:Int))then
 vhg a0.2.1 (fun y3=>
 bif y3 then
 vvi a0.2.1 (fun y4=>
 vby (false,y4,(vap a0.2.2.1 (⟨#[]⟩:ByteArray)),y2,a0.1,a0.2.1.1,a0.2.1.2.1,a0.2.1.2.2.1,a0.2.1.2.2.2.1,a0.2.1.2.2.2.2.1,a0.2.1.2.2.2.2.2.1,a0.2.1.2.2.2.2.2.2.1,a0.2.1.2.2.2.2.2.2.2,a0.2.2.1,a0.2.2.2.1,a0.2.2.2.2.1,a0.2.2.2.2.2.1,a0.2.2.2.2.2.2.1,a0.2.2.2.2.2.2.2.1,a0.2.2.2.2.2.2.2.2) (fun z5=>
 k z5.1))
 else
 vby (false,false,(vap a0.2.2.1 (⟨#[]⟩:ByteArray)),y2,a0.1,a0.2.1.1,a0.2.1.2.1,a0.2.1.2.2.1,a0.2.1.2.2.2.1,a0.2.1.2.2.2.2.1,a0.2.1.2.2.2.2.2.1,a0.2.1.2.2.2.2.2.2.1,a0.2.1.2.2.2.2.2.2.2,a0.2.2.1,a0.2.2.2.1,a0.2.2.2.2.1,a0.2.2.2.2.2.1,a0.2.2.2.2.2.2.1,a0.2.2.2.2.2.2.2.1,a0.2.2.2.2.2.2.2.2) (fun z6=>
 k z6.1))
 else
 bif (a0.1==(2:Int))then
 vhg a0.2.1 (fun y7=>
 bif y7 then
 vvg a0.2.1 (fun y8=>
 vby (false,y8,(vap a0.2.2.1 (⟨#[]⟩:ByteArray)),y2,a0.1,a0.2.1.1,a0.2.1.2.1,a0.2.1.2.2.1,a0.2.1.2.2.2.1,a0.2.1.2.2.2.2.1,a0.2.1.2.2.2.2.2.1,a0.2.1.2.2.2.2.2.2.1,a0.2.1.2.2.2.2.2.2.2,a0.2.2.1,a0.2.2.2.1,a0.2.2.2.2.1,a0.2.2.2.2.2.1,a0.2.2.2.2.2.2.1,a0.2.2.2.2.2.2.2.1,a0.2.2.2.2.2.2.2.2) (fun z9=>
 k z9.1))
 else
 vby (false,false,(vap a0.2.2.1 (⟨#[]⟩:ByteArray)),y2,a0.1,a0.2.1.1,a0.2.1.2.1,a0.2.1.2.2.1,a0.2.1.2.2.2.1,a0.2.1.2.2.2.2.1,a0.2.1.2.2.2.2.2.1,a0.2.1.2.2.2.2.2.2.1,a0.2.1.2.2.2.2.2.2.2,a0.2.2.1,a0.2.2.2.1,a0.2.2.2.2.1,a0.2.2.2.2.2.1,a0.2.2.2.2.2.2.1,a0.2.2.2.2.2.2.2.1,a0.2.2.2.2.2.2.2.2) (fun z10=>
 k z10.1))
 else
 bif (a0.1==(3:Int))then
 vjs a0.2.2.1 (fun y11=>
 vby (false,y1,y11,y2,a0.1,a0.2.1.1,a0.2.1.2.1,a0.2.1.2.2.1,a0.2.1.2.2.2.1,a0.2.1.2.2.2.2.1,a0.2.1.2.2.2.2.2.1,a0.2.1.2.2.2.2.2.2.1,a0.2.1.2.2.2.2.2.2.2,a0.2.2.1,a0.2.2.2.1,a0.2.2.2.2.1,a0.2.2.2.2.2.1,a0.2.2.2.2.2.2.1,a0.2.2.2.2.2.2.2.1,a0.2.2.2.2.2.2.2.2) (fun z12=>
 k z12.1))
 else
 bif (a0.1==(4:Int))then
 vrk a0.2.2.2.2 (fun y13=>
 vby (false,y1,(vap a0.2.2.1 (⟨#[]⟩:ByteArray)),y13,a0.1,a0.2.1.1,a0.2.1.2.1,a0.2.1.2.2.1,a0.2.1.2.2.2.1,a0.2.1.2.2.2.2.1,a0.2.1.2.2.2.2.2.1,a0.2.1.2.2.2.2.2.2.1,a0.2.1.2.2.2.2.2.2.2,a0.2.2.1,a0.2.2.2.1,a0.2.2.2.2.1,a0.2.2.2.2.2.1,a0.2.2.2.2.2.2.1,a0.2.2.2.2.2.2.2.1,a0.2.2.2.2.2.2.2.2) (fun z14=>
 k z14.1))
 else
 k false))
def v21:=shut wf2
theorem wqy:v21=wf2:=vaj _
instance n11n_p (a0:vcd):ParC (v21 a0):=by rw [wqy];unfold wf2;(try dsimp only);exact⟨((n26n_p _).p.bind fun y1=>((n25n_p _).p.bind fun y2=>(vaf ((n17n_p _).p.bind fun y3=>(vaf ((n29n_p _).p.bind fun y4=>((n11n_jp5000012 _).p.bind fun z5=>(vab _))) ((n11n_jp5000012 _).p.bind fun z6=>(vab _)))) (vaf ((n17n_p _).p.bind fun y7=>(vaf ((n30n_p _).p.bind fun y8=>((n11n_jp5000012 _).p.bind fun z9=>(vab _))) ((n11n_jp5000012 _).p.bind fun z10=>(vab _)))) (vaf ((n06n_p _).p.bind fun y11=>((n11n_jp5000012 _).p.bind fun z12=>(vab _))) (vaf ((n04n_p _).p.bind fun y13=>((n11n_jp5000012 _).p.bind fun z14=>(vab _))) (vab _)))))))⟩
def whg (a0:ByteArray)(k:(ByteArray×Bool)→Option Res):Option Res:=
 bif (decide ((a0.size:Int)>(20000:Int)))then
 k ((⟨#[]⟩:ByteArray),false)
 else
 vpi (a0.size:Int) (fun y1=>
 if y1.1.size+a0.size≤1099511627776 then
 k ((y1.1++a0),true)
 else none)
def v4p:=shut whg
theorem woq:v4p=whg:=vaj _
instance n14n_p (a0:ByteArray):ParC (v4p a0):=by rw [woq];unfold whg;(try dsimp only);infer_instance
def voe (x:(q2T⊕q2T))(k:(q2T⊕q2T)⊕(q2T⊕q2T)→Option Res):Option Res:=
 (Sum.elim (fun x=>
 bif (decide (x.2.2.1<x.2.1))then
 if 0≤x.2.2.1∧x.2.2.1<(x.1.length:Int)then
 v4p (rd (Ty.zero .str) x.1 x.2.2.1) (fun y3=>
 if x.2.2.2.length+(vah y3.1).length≤VE.maxLen then
 k (.inl (.inr (x.1,x.2.1,(IntKind.wrap .i64 (x.2.2.1+1)),(x.2.2.2++(vah y3.1)))))
 else none)
 else none
 else
 k (.inr (.inl (x.1,x.2.1,x.2.2.1,x.2.2.2)))) (fun x=>
 bif (decide (x.2.2.1<x.2.1))then
 if 0≤x.2.2.1∧x.2.2.1<(x.1.length:Int)then
 v4p (rd (Ty.zero .str) x.1 x.2.2.1) (fun y4=>
 if x.2.2.2.length+(vah y4.1).length≤VE.maxLen then
 k (.inl (.inr (x.1,x.2.1,(IntKind.wrap .i64 (x.2.2.1+1)),(x.2.2.2++(vah y4.1)))))
 else none)
 else none
 else
 k (.inr (.inr (x.1,x.2.1,x.2.2.1,x.2.2.2))))) x
instance n34n_bp0 (x:(q2T⊕q2T)):ParC (voe x):=by
 unfold voe
 rcases x with x|x
 ·simp only [Sum.elim_inl]
  infer_instance
 ·simp only [Sum.elim_inr]
  (try dsimp only)
  infer_instance
def v84 (a0:(List ByteArray))(a1:(List Int))(k:((List Int)⊕(List Int))→Option Res):Option Res:=
 vae voe Fuel (.inl (a0,(a0.length:Int),0,a1)) (Sum.elim (fun z1=>
 k (.inl z1.2.2.2)) (fun z2=>
 k (.inr z2.2.2.2)))
def vhc:=shut v84
theorem wh4:vhc=v84:=vaj _
instance n34n_p (a0:(List ByteArray))(a1:(List Int)):ParC (vhc a0 a1):=by rw [wh4];unfold v84;(try dsimp only);infer_instance
def vd6 (x:(Int×(List Int)))(k:(Int×(List Int))→Option Res):Option Res:=
 if x.2.length+[x.1].length≤VE.maxLen then
 k (x.1,(x.2++[x.1]))
 else none
instance n31n_jp5000003 (x:(Int×(List Int))):ParC (vd6 x):=by unfold vd6;(try dsimp only);infer_instance
def wgq (a0:Bool)(a1:(List Int))(k:(List Int)→Option Res):Option Res:=
 bif a0 then
 vd6 (1,a1) (fun z1=>
 k z1.2)
 else
 vd6 (0,a1) (fun z2=>
 k z2.2)
def vgd:=shut wgq
theorem wq5:vgd=wgq:=vaj _
instance n31n_p (a0:Bool)(a1:(List Int)):ParC (vgd a0 a1):=by rw [wq5];unfold wgq;(try dsimp only);infer_instance
def vpl (x:q3T)(k:q3T⊕q3T→Option Res):Option Res:=
 bif (decide (x.2.2.1<x.2.1))then
 if 0≤x.2.2.1∧x.2.2.1<(x.1.length:Int)then
 vpi (rd (Ty.zero (.i)) x.1 x.2.2.1) (fun y2=>
 if x.2.2.2.length+(vah y2.1).length≤VE.maxLen then
 k (.inl (x.1,x.2.1,(IntKind.wrap .i64 (x.2.2.1+1)),(x.2.2.2++(vah y2.1))))
 else none)
 else none
 else
 k (.inr (x.1,x.2.1,x.2.2.1,x.2.2.2))
instance n32n_bp0 (x:q3T):ParC (vpl x):=by unfold vpl;(try dsimp only);infer_instance
def wf3 (a0:(List Int))(k:(List Int)→Option Res):Option Res:=
 vae vpl Fuel (a0,(a0.length:Int),0,([]:List Int)) (fun z1=>
 k z1.2.2.2)
def vs7:=shut wf3
theorem wmd:vs7=wf3:=vaj _
instance n32n_p (a0:(List Int)):ParC (vs7 a0):=by rw [wmd];unfold wf3;(try dsimp only);infer_instance
def vsn (x:(q3T⊕q3T))(k:(q3T⊕q3T)⊕(q3T⊕q3T)→Option Res):Option Res:=
 (Sum.elim (fun x=>
 bif (decide (x.2.2.1<x.2.1))then
 if 0≤x.2.2.1∧x.2.2.1<(x.1.length:Int)then
 vpi (rd (Ty.zero (.i)) x.1 x.2.2.1) (fun y3=>
 if x.2.2.2.length+(vah y3.1).length≤VE.maxLen then
 k (.inl (.inr (x.1,x.2.1,(IntKind.wrap .i64 (x.2.2.1+1)),(x.2.2.2++(vah y3.1)))))
 else none)
 else none
 else
 k (.inr (.inl (x.1,x.2.1,x.2.2.1,x.2.2.2)))) (fun x=>
 bif (decide (x.2.2.1<x.2.1))then
 if 0≤x.2.2.1∧x.2.2.1<(x.1.length:Int)then
 vpi (rd (Ty.zero (.i)) x.1 x.2.2.1) (fun y4=>
 if x.2.2.2.length+(vah y4.1).length≤VE.maxLen then
 k (.inl (.inr (x.1,x.2.1,(IntKind.wrap .i64 (x.2.2.1+1)),(x.2.2.2++(vah y4.1)))))
 else none)
 else none
 else
 k (.inr (.inr (x.1,x.2.1,x.2.2.1,x.2.2.2))))) x
instance n33n_bp0 (x:(q3T⊕q3T)):ParC (vsn x):=by
 unfold vsn
 rcases x with x|x
 ·simp only [Sum.elim_inl]
  infer_instance
 ·simp only [Sum.elim_inr]
  (try dsimp only)
  infer_instance
def whl (a0:(List Int))(a1:(List Int))(k:((List Int)⊕(List Int))→Option Res):Option Res:=
 vae vsn Fuel (.inl (a0,(a0.length:Int),0,a1)) (Sum.elim (fun z1=>
 k (.inl z1.2.2.2)) (fun z2=>
 k (.inr z2.2.2.2)))
def vn5:=shut whl
theorem wps:vn5=whl:=vaj _
instance n33n_p (a0:(List Int))(a1:(List Int)):ParC (vn5 a0 a1):=by rw [wps];unfold whl;(try dsimp only);infer_instance
def vp5 (x:q5T)(k:q5T⊕q5T→Option Res):Option Res:=
 let xh:=x.2.2.2.2.2.2.2.2
 bif (decide (x.2.2.1<x.2.1))then
 if 0≤x.2.2.1∧x.2.2.1<(x.1.length:Int)then
 vhc [(rd (Ty.zero tRange) x.1 x.2.2.1).1,(rd (Ty.zero tRange) x.1 x.2.2.1).2] xh.2.2.2 (Sum.elim (fun y14=>
 k (.inl (x.1,x.2.1,(IntKind.wrap .i64 (x.2.2.1+1)),x.2.2.2.1,x.2.2.2.2.1,x.2.2.2.2.2.1,x.2.2.2.2.2.2.1,x.2.2.2.2.2.2.2.1,xh.1,xh.2.1,xh.2.2.1,y14))) (fun y15=>
 k (.inl (x.1,x.2.1,(IntKind.wrap .i64 (x.2.2.1+1)),x.2.2.2.1,x.2.2.2.2.1,x.2.2.2.2.2.1,x.2.2.2.2.2.2.1,x.2.2.2.2.2.2.2.1,xh.1,xh.2.1,xh.2.2.1,y15))))
 else none
 else
 k (.inr (x.1,x.2.1,x.2.2.1,x.2.2.2.1,x.2.2.2.2.1,x.2.2.2.2.2.1,x.2.2.2.2.2.2.1,x.2.2.2.2.2.2.2.1,xh.1,xh.2.1,xh.2.2.1,xh.2.2.2))
instance n18n_bp0 (x:q5T):ParC (vp5 x):=by unfold vp5;(try dsimp only);infer_instance
def vna (x:q19T)(k:q19T⊕q19T→Option Res):Option Res:=
 let xh:=x.2.2.2.2.2.2.2.2
 bif (decide (x.2.2.1<x.2.1))then
 if 0≤x.2.2.1∧x.2.2.1<(x.1.length:Int)then
 vhc [(rd (Ty.zero tWrite) x.1 x.2.2.1).1,(rd (Ty.zero tWrite) x.1 x.2.2.1).2.1] xh.2.2.2 (Sum.elim (fun y16=>
 vgd ((rd (Ty.zero tWrite) x.1 x.2.2.1).2.2) y16 (fun y17=>
 k (.inl (x.1,x.2.1,(IntKind.wrap .i64 (x.2.2.1+1)),x.2.2.2.1,x.2.2.2.2.1,x.2.2.2.2.2.1,x.2.2.2.2.2.2.1,x.2.2.2.2.2.2.2.1,xh.1,xh.2.1,xh.2.2.1,y17)))) (fun y18=>
 vgd ((rd (Ty.zero tWrite) x.1 x.2.2.1).2.2) y18 (fun y19=>
 k (.inl (x.1,x.2.1,(IntKind.wrap .i64 (x.2.2.1+1)),x.2.2.2.1,x.2.2.2.2.1,x.2.2.2.2.2.1,x.2.2.2.2.2.2.1,x.2.2.2.2.2.2.2.1,xh.1,xh.2.1,xh.2.2.1,y19)))))
 else none
 else
 k (.inr (x.1,x.2.1,x.2.2.1,x.2.2.2.1,x.2.2.2.2.1,x.2.2.2.2.2.1,x.2.2.2.2.2.2.1,x.2.2.2.2.2.2.2.1,xh.1,xh.2.1,xh.2.2.1,xh.2.2.2))
instance n18n_bp2 (x:q19T):ParC (vna x):=by unfold vna;(try dsimp only);infer_instance
def wgh (a0:dTxn)(k:(ByteArray×Bool)→Option Res):Option Res:=
 vhg a0 (fun y1=>
 bif (!y1)then
 k ((⟨#[]⟩:ByteArray),false)
 else
 vs7 [a0.1,a0.2.1,a0.2.2.1,a0.2.2.2.1,(a0.2.2.2.2.1.length:Int)] (fun y2=>
 vae vp5 Fuel (a0.2.2.2.2.1,(a0.2.2.2.2.1.length:Int),0,a0.1,a0.2.1,a0.2.2.1,a0.2.2.2.1,a0.2.2.2.2.1,a0.2.2.2.2.2.1,a0.2.2.2.2.2.2.1,a0.2.2.2.2.2.2.2,y2) (fun z3=>
 let z3h:=z3.2.2.2.2.2.2.2.2
 vn5 [(z3h.1.length:Int)] z3h.2.2.2 (Sum.elim (fun y4=>
 vae vna Fuel (z3h.1,(z3h.1.length:Int),0,z3.2.2.2.1,z3.2.2.2.2.1,z3.2.2.2.2.2.1,z3.2.2.2.2.2.2.1,z3.2.2.2.2.2.2.2.1,z3h.1,z3h.2.1,z3h.2.2.1,y4) (fun z5=>
 let z5h:=z5.2.2.2.2.2.2.2.2
 vgd z5h.2.1 z5h.2.2.2 (fun y6=>
 vhc [z5h.2.2.1] y6 (Sum.elim (fun y7=>
 k ((van y7),true)) (fun y8=>
 k ((van y8),true)))))) (fun y9=>
 vae vna Fuel (z3h.1,(z3h.1.length:Int),0,z3.2.2.2.1,z3.2.2.2.2.1,z3.2.2.2.2.2.1,z3.2.2.2.2.2.2.1,z3.2.2.2.2.2.2.2.1,z3h.1,z3h.2.1,z3h.2.2.1,y9) (fun z10=>
 let z10h:=z10.2.2.2.2.2.2.2.2
 vgd z10h.2.1 z10h.2.2.2 (fun y11=>
 vhc [z10h.2.2.1] y11 (Sum.elim (fun y12=>
 k ((van y12),true)) (fun y13=>
 k ((van y13),true))))))))))
def vw0:=shut wgh
theorem wrb:vw0=wgh:=vaj _
instance n18n_p (a0:dTxn):ParC (vw0 a0):=by rw [wrb];unfold wgh;(try dsimp only);exact⟨((n17n_p _).p.bind fun y1=>(vaf (vab _) ((n32n_p _).p.bind fun y2=>((vbz (fun x=>(n18n_bp0 x).p) _ _).bind fun z3=>((n33n_p _ _).p.bind2 (fun y4=>((vbz (fun x=>(n18n_bp2 x).p) _ _).bind fun z5=>((n31n_p _ _).p.bind fun y6=>((n34n_p _ _).p.bind2 (fun y7=>(vab _)) (fun y8=>(vab _)))))) (fun y9=>((vbz (fun x=>(n18n_bp2 x).p) _ _).bind fun z10=>((n31n_p _ _).p.bind fun y11=>((n34n_p _ _).p.bind2 (fun y12=>(vab _)) (fun y13=>(vab _)))))))))))⟩
def voq (x:q15T)(k:q15T⊕q15T→Option Res):Option Res:=
 let xh:=x.2.2.2.2.2.2.2.2
 let t0:=(rd (Ty.zero tVersion) x.1 x.2.2.1)
 let t1:=(IntKind.wrap .i64 (x.2.2.1+(1:Int)))
 bif (decide (x.2.2.1<x.2.1))then
 if 0≤x.2.2.1∧x.2.2.1<(x.1.length:Int)then
 vhc [t0.1,t0.2.1] xh (Sum.elim (fun y5=>
 vgd (t0.2.2.1) y5 (fun y6=>
 vn5 [t0.2.2.2] y6 (Sum.elim (fun y7=>
 k (.inl (x.1,x.2.1,t1,x.2.2.2.1,x.2.2.2.2.1,x.2.2.2.2.2.1,x.2.2.2.2.2.2.1,x.2.2.2.2.2.2.2.1,y7))) (fun y8=>
 k (.inl (x.1,x.2.1,t1,x.2.2.2.1,x.2.2.2.2.1,x.2.2.2.2.2.1,x.2.2.2.2.2.2.1,x.2.2.2.2.2.2.2.1,y8)))))) (fun y9=>
 vgd (t0.2.2.1) y9 (fun y10=>
 vn5 [t0.2.2.2] y10 (Sum.elim (fun y11=>
 k (.inl (x.1,x.2.1,t1,x.2.2.2.1,x.2.2.2.2.1,x.2.2.2.2.2.1,x.2.2.2.2.2.2.1,x.2.2.2.2.2.2.2.1,y11))) (fun y12=>
 k (.inl (x.1,x.2.1,t1,x.2.2.2.1,x.2.2.2.2.1,x.2.2.2.2.2.1,x.2.2.2.2.2.2.1,x.2.2.2.2.2.2.2.1,y12)))))))
 else none
 else
 k (.inr (x.1,x.2.1,x.2.2.1,x.2.2.2.1,x.2.2.2.2.1,x.2.2.2.2.2.1,x.2.2.2.2.2.2.1,x.2.2.2.2.2.2.2.1,xh))
instance n05n_bp0 (x:q15T):ParC (voq x):=by unfold voq;(try dsimp only);exact⟨(vaf (vbo ((n34n_p _ _).p.bind2 (fun y5=>((n31n_p _ _).p.bind fun y6=>((n33n_p _ _).p.bind2 (fun y7=>(vab _)) (fun y8=>(vab _))))) (fun y9=>((n31n_p _ _).p.bind fun y10=>((n33n_p _ _).p.bind2 (fun y11=>(vab _)) (fun y12=>(vab _)))))) va5) (vab _))⟩
def vol (x:q61T)(k:q61T⊕q61T→Option Res):Option Res:=
 bif (decide (x.2.2.2.2.1<x.2.2.2.1))then
 if 0≤x.2.2.2.2.1∧x.2.2.2.2.1<(x.2.2.1.length:Int)then
 vw0 (rd (Ty.zero tTxn) x.2.2.1 x.2.2.2.2.1) (fun y17=>
 if x.2.2.2.2.2.2.length+(vah y17.1).length≤VE.maxLen then
 k (.inl (x.1,x.2.1,x.2.2.1,x.2.2.2.1,(IntKind.wrap .i64 (x.2.2.2.2.1+1)),x.2.2.2.2.2.1,(x.2.2.2.2.2.2++(vah y17.1))))
 else none)
 else none
 else
 k (.inr (x.1,x.2.1,x.2.2.1,x.2.2.2.1,x.2.2.2.2.1,x.2.2.2.2.2.1,x.2.2.2.2.2.2))
instance n05n_bp4 (x:q61T):ParC (vol x):=by unfold vol;(try dsimp only);infer_instance
def vke (x:q60T)(k:q60T⊕q60T→Option Res):Option Res:=
 bif (decide (x.2.1<x.1))then
 if 0≤x.2.1∧x.2.1<(x.2.2.1.length:Int)then
 vn5 [((x.2.2.1.getD x.2.1.toNat (Ty.zero (.slice tTxn))).length:Int)] x.2.2.2 (Sum.elim (fun y13=>
 vae vol Fuel (x.1,x.2.1,(x.2.2.1.getD x.2.1.toNat (Ty.zero (.slice tTxn))),((x.2.2.1.getD x.2.1.toNat (Ty.zero (.slice tTxn))).length:Int),0,x.2.2.1,y13) (fun z14=>
 k (.inl (z14.1,(IntKind.wrap .i64 (z14.2.1+1)),z14.2.2.2.2.2.1,z14.2.2.2.2.2.2)))) (fun y15=>
 vae vol Fuel (x.1,x.2.1,(x.2.2.1.getD x.2.1.toNat (Ty.zero (.slice tTxn))),((x.2.2.1.getD x.2.1.toNat (Ty.zero (.slice tTxn))).length:Int),0,x.2.2.1,y15) (fun z16=>
 k (.inl (z16.1,(IntKind.wrap .i64 (z16.2.1+1)),z16.2.2.2.2.2.1,z16.2.2.2.2.2.2)))))
 else none
 else
 k (.inr (x.1,x.2.1,x.2.2.1,x.2.2.2))
instance n05n_bp2 (x:q60T):ParC (vke x):=by unfold vke;(try dsimp only);infer_instance
def wfi (a0:vfd)(k:(ByteArray×Bool)→Option Res):Option Res:=
 vrk a0 (fun y1=>
 bif (!y1)then
 k ((⟨#[]⟩:ByteArray),false)
 else
 vs7 [a0.2.2.2.1,a0.2.2.2.2,(a0.1.length:Int)] (fun y2=>
 vae voq Fuel (a0.1,(a0.1.length:Int),0,a0.1,a0.2.1,a0.2.2.1,a0.2.2.2.1,a0.2.2.2.2,y2) (fun z3=>
 vae vke Fuel (([z3.2.2.2.2.1,z3.2.2.2.2.2.1].length:Int),0,[z3.2.2.2.2.1,z3.2.2.2.2.2.1],z3.2.2.2.2.2.2.2.2) (fun z4=>
 k ((van z4.2.2.2),true)))))
def v4m:=shut wfi
theorem wrr:v4m=wfi:=vaj _
instance n05n_p (a0:vfd):ParC (v4m a0):=by rw [wrr];unfold wfi;(try dsimp only);infer_instance
def vc1 (x:q36T)(k:q36T→Option Res):Option Res:=
 vyv (van x.2.2) (fun y12=>
 k (y12.1,y12.2,x.2.2))
instance n12n_jp5000013 (x:q36T):ParC (vc1 x):=by unfold vc1;(try dsimp only);infer_instance
def wil (a0:vcd)(k:(ByteArray×Bool)→Option Res):Option Res:=
 v21 a0 (fun y1=>
 bif (!y1)then
 k ((⟨#[]⟩:ByteArray),false)
 else
 bif (a0.1==(3:Int))then
 vhc [a0.2.2.1] [(IntKind.wrap .u8 a0.1)] (Sum.elim (fun y2=>
 vgd a0.2.2.2.1 y2 (fun y3=>
 vc1 ((⟨#[]⟩:ByteArray),false,y3) (fun z4=>
 k (z4.1,z4.2.1)))) (fun y5=>
 vgd a0.2.2.2.1 y5 (fun y6=>
 vc1 ((⟨#[]⟩:ByteArray),false,y6) (fun z7=>
 k (z7.1,z7.2.1)))))
 else
 bif (a0.1==(4:Int))then
 v4m a0.2.2.2.2 (fun y8=>
 if [(IntKind.wrap .u8 a0.1)].length+(vah y8.1).length≤VE.maxLen then
 vc1 ((⟨#[]⟩:ByteArray),false,([(IntKind.wrap .u8 a0.1)]++(vah y8.1))) (fun z9=>
 k (z9.1,z9.2.1))
 else none)
 else
 vw0 a0.2.1 (fun y10=>
 if [(IntKind.wrap .u8 a0.1)].length+(vah y10.1).length≤VE.maxLen then
 vc1 ((⟨#[]⟩:ByteArray),false,([(IntKind.wrap .u8 a0.1)]++(vah y10.1))) (fun z11=>
 k (z11.1,z11.2.1))
 else none))
def waa:=shut wil
theorem wrp:waa=wil:=vaj _
instance n12n_p (a0:vcd):ParC (waa a0):=by rw [wrp];unfold wil;(try dsimp only);exact⟨((n11n_p _).p.bind fun y1=>(vaf (vab _) (vaf ((n34n_p _ _).p.bind2 (fun y2=>((n31n_p _ _).p.bind fun y3=>((n12n_jp5000013 _).p.bind fun z4=>(vab _)))) (fun y5=>((n31n_p _ _).p.bind fun y6=>((n12n_jp5000013 _).p.bind fun z7=>(vab _))))) (vaf ((n05n_p _).p.bind fun y8=>(vbo ((n12n_jp5000013 _).p.bind fun z9=>(vab _)) va5)) ((n18n_p _).p.bind fun y10=>(vbo ((n12n_jp5000013 _).p.bind fun z11=>(vab _)) va5))))))⟩
def vb0 (x:q42T)(k:(q42T⊕q43T)→Option Res):Option Res:=
 let xh:=x.2.2.2.2.2.2.2.2
 let xhh:=xh.2.2.2.2.2.2.2.2
 let xhhh:=xhh.2.2.2.2.2.2.2.2
 let xhhhh:=xhhh.2.2.2.2.2.2.2.2
 let t0:=(x.1,false,(0:Int),(0:Int),(0:Int),(0:Int),(0:Int),false,(⟨#[]⟩:ByteArray),(⟨#[]⟩:ByteArray),false,(0:Int),(0:Int),xh.2.2.2.2.2.1,xh.2.2.2.2.2.2.1,xh.2.2.2.2.2.2.2.1,xhh.1,xhh.2.1,xhh.2.2.1,xhh.2.2.2.1,xhh.2.2.2.2.1,xhh.2.2.2.2.2.1,xhh.2.2.2.2.2.2.1,xhh.2.2.2.2.2.2.2.1,xhhh.1,xhhh.2.1,xhhh.2.2.1,([]:List vai),([]:List vag),([]:List vaa),([]:List dTxn),([]:List dTxn),xhhhh.1,xhhhh.2.1,xhhhh.2.2.1,xhhhh.2.2.2.1,xhhhh.2.2.2.2)
 waa (xh.2.2.2.2.2.1,((xh.2.2.2.2.2.2.1,(xh.2.2.2.2.2.2.2.1,(xhh.1,(xhh.2.1,(xhhhh.1,(xhhhh.2.1,(xhh.2.2.1,xhh.2.2.2.1))))))),(xhh.2.2.2.2.1,(xhh.2.2.2.2.2.1,(xhhhh.2.2.1,(xhhhh.2.2.2.1,(xhhhh.2.2.2.2,(xhh.2.2.2.2.2.2.1,xhh.2.2.2.2.2.2.2.1)))))))) (fun y13=>
 bif xhhh.2.2.1 then
 k (.inl t0)
 else
 bif (!y13.2)then
 k (.inl t0)
 else
 bif (!(vap y13.1 x.1))then
 k (.inl t0)
 else
 k (.inr (x.1,true,xh.2.2.2.2.2.1,xh.2.2.2.2.2.2.1,xh.2.2.2.2.2.2.2.1,xhh.1,xhh.2.1,xhh.2.2.1,xhh.2.2.2.1,xhh.2.2.2.2.1,xhh.2.2.2.2.2.1,xhh.2.2.2.2.2.2.1,xhh.2.2.2.2.2.2.2.1,xh.2.2.2.2.2.1,xh.2.2.2.2.2.2.1,xh.2.2.2.2.2.2.2.1,xhh.1,xhh.2.1,xhh.2.2.1,xhh.2.2.2.1,xhh.2.2.2.2.1,xhh.2.2.2.2.2.1,xhh.2.2.2.2.2.2.1,xhh.2.2.2.2.2.2.2.1,xhhh.1,xhhh.2.1,xhhh.2.2.1,xhhhh.1,xhhhh.2.1,xhhhh.2.2.1,xhhhh.2.2.2.1,xhhhh.2.2.2.2)))
instance n08n_jp5000013 (x:q42T):ParC (vb0 x):=by unfold vb0;(try dsimp only);infer_instance
def vfi (x:q38T)(k:q39T→Option Res):Option Res:=
 let xh:=x.2.2.2.2.2.2.2.2
 let xhh:=xh.2.2.2.2.2.2.2.2
 let t0:=(IntKind.wrap .i64 (bt x.2.2.1 (0:Int)))
 if 0≤(0:Int)∧(0:Int)<(x.2.2.1.size:Int)then
 bif (t0==(3:Int))then
 vgc x.2.2.1 (1:Int) false (fun y3=>
 vrf y3.2.1 y3.2.2.1 y3.2.2.2 (fun y4=>
 vb0 (x.1,x.2.1,x.2.2.2.1,x.2.2.2.2.1,x.2.2.2.2.2.1,x.2.2.2.2.2.2.1,x.2.2.2.2.2.2.2.1,xh.1,xh.2.1,xh.2.2.1,xh.2.2.2.1,xh.2.2.2.2.1,xh.2.2.2.2.2.1,t0,0,0,0,0,false,(⟨#[]⟩:ByteArray),y3.1,y4.1,0,0,y4.2.1,y4.2.2.1,y4.2.2.2,xh.2.2.2.2.2.2.1,xh.2.2.2.2.2.2.2.1,xhh.1,xhh.2.1,xhh.2.2,([]:List vai),([]:List vag),([]:List vaa),([]:List dTxn),([]:List dTxn)) (Sum.elim (fun z5=>
 let z5h:=z5.2.2.2.2.2.2.2.2
 let z5hh:=z5h.2.2.2.2.2.2.2.2
 let z5hhh:=z5hh.2.2.2.2.2.2.2.2
 k (z5.1,z5.2.1,z5.2.2.1,z5.2.2.2.1,z5.2.2.2.2.1,z5.2.2.2.2.2.1,z5.2.2.2.2.2.2.1,z5.2.2.2.2.2.2.2.1,z5h.1,z5h.2.1,z5h.2.2.1,z5h.2.2.2.1,z5h.2.2.2.2.1,z5hhh.2.2.2.1,z5hhh.2.2.2.2.1,z5hhh.2.2.2.2.2.1,z5hhh.2.2.2.2.2.2.1,z5hhh.2.2.2.2.2.2.2.1)) (fun z6=>
 let z6h:=z6.2.2.2.2.2.2.2.2
 let z6hh:=z6h.2.2.2.2.2.2.2.2
 let z6hhh:=z6hh.2.2.2.2.2.2.2.2
 k (z6.1,z6.2.1,z6.2.2.1,z6.2.2.2.1,z6.2.2.2.2.1,z6.2.2.2.2.2.1,z6.2.2.2.2.2.2.1,z6.2.2.2.2.2.2.2.1,z6h.1,z6h.2.1,z6h.2.2.1,z6h.2.2.2.1,z6h.2.2.2.2.1,z6hhh.2.2.2.1,z6hhh.2.2.2.2.1,z6hhh.2.2.2.2.2.1,z6hhh.2.2.2.2.2.2.1,z6hhh.2.2.2.2.2.2.2)))))
 else
 bif (t0==(4:Int))then
 v26 x.2.2.1 (1:Int) false (fun y7=>
 vb0 (x.1,x.2.1,x.2.2.2.1,x.2.2.2.2.1,x.2.2.2.2.2.1,x.2.2.2.2.2.2.1,x.2.2.2.2.2.2.2.1,xh.1,xh.2.1,xh.2.2.1,xh.2.2.2.1,xh.2.2.2.2.1,xh.2.2.2.2.2.1,t0,0,0,0,0,false,(⟨#[]⟩:ByteArray),(⟨#[]⟩:ByteArray),false,y7.1,y7.2.1,y7.2.2.1,y7.2.2.2.1,y7.2.2.2.2.1,xh.2.2.2.2.2.2.1,xh.2.2.2.2.2.2.2.1,xhh.1,xhh.2.1,xhh.2.2,([]:List vai),([]:List vag),y7.2.2.2.2.2.1,y7.2.2.2.2.2.2.1,y7.2.2.2.2.2.2.2) (Sum.elim (fun z8=>
 let z8h:=z8.2.2.2.2.2.2.2.2
 let z8hh:=z8h.2.2.2.2.2.2.2.2
 let z8hhh:=z8hh.2.2.2.2.2.2.2.2
 k (z8.1,z8.2.1,z8.2.2.1,z8.2.2.2.1,z8.2.2.2.2.1,z8.2.2.2.2.2.1,z8.2.2.2.2.2.2.1,z8.2.2.2.2.2.2.2.1,z8h.1,z8h.2.1,z8h.2.2.1,z8h.2.2.2.1,z8h.2.2.2.2.1,z8hhh.2.2.2.1,z8hhh.2.2.2.2.1,z8hhh.2.2.2.2.2.1,z8hhh.2.2.2.2.2.2.1,z8hhh.2.2.2.2.2.2.2.1)) (fun z9=>
 let z9h:=z9.2.2.2.2.2.2.2.2
 let z9hh:=z9h.2.2.2.2.2.2.2.2
 let z9hhh:=z9hh.2.2.2.2.2.2.2.2
 k (z9.1,z9.2.1,z9.2.2.1,z9.2.2.2.1,z9.2.2.2.2.1,z9.2.2.2.2.2.1,z9.2.2.2.2.2.2.1,z9.2.2.2.2.2.2.2.1,z9h.1,z9h.2.1,z9h.2.2.1,z9h.2.2.2.1,z9h.2.2.2.2.1,z9hhh.2.2.2.1,z9hhh.2.2.2.2.1,z9hhh.2.2.2.2.2.1,z9hhh.2.2.2.2.2.2.1,z9hhh.2.2.2.2.2.2.2))))
 else
 vrm x.2.2.1 (1:Int) false (fun y10=>
 let y10h:=y10.2.2.2.2.2.2.2.2
 vb0 (x.1,x.2.1,x.2.2.2.1,x.2.2.2.2.1,x.2.2.2.2.2.1,x.2.2.2.2.2.2.1,x.2.2.2.2.2.2.2.1,xh.1,xh.2.1,xh.2.2.1,xh.2.2.2.1,xh.2.2.2.2.1,xh.2.2.2.2.2.1,t0,y10.1,y10.2.1,y10.2.2.1,y10.2.2.2.1,y10.2.2.2.2.1,y10.2.2.2.2.2.1,(⟨#[]⟩:ByteArray),false,0,0,y10.2.2.2.2.2.2.1,y10.2.2.2.2.2.2.2.1,y10h.1,xh.2.2.2.2.2.2.1,xh.2.2.2.2.2.2.2.1,xhh.1,xhh.2.1,xhh.2.2,y10h.2.1,y10h.2.2,([]:List vaa),([]:List dTxn),([]:List dTxn)) (Sum.elim (fun z11=>
 let z11h:=z11.2.2.2.2.2.2.2.2
 let z11hh:=z11h.2.2.2.2.2.2.2.2
 let z11hhh:=z11hh.2.2.2.2.2.2.2.2
 k (z11.1,z11.2.1,z11.2.2.1,z11.2.2.2.1,z11.2.2.2.2.1,z11.2.2.2.2.2.1,z11.2.2.2.2.2.2.1,z11.2.2.2.2.2.2.2.1,z11h.1,z11h.2.1,z11h.2.2.1,z11h.2.2.2.1,z11h.2.2.2.2.1,z11hhh.2.2.2.1,z11hhh.2.2.2.2.1,z11hhh.2.2.2.2.2.1,z11hhh.2.2.2.2.2.2.1,z11hhh.2.2.2.2.2.2.2.1)) (fun z12=>
 let z12h:=z12.2.2.2.2.2.2.2.2
 let z12hh:=z12h.2.2.2.2.2.2.2.2
 let z12hhh:=z12hh.2.2.2.2.2.2.2.2
 k (z12.1,z12.2.1,z12.2.2.1,z12.2.2.2.1,z12.2.2.2.2.1,z12.2.2.2.2.2.1,z12.2.2.2.2.2.2.1,z12.2.2.2.2.2.2.2.1,z12h.1,z12h.2.1,z12h.2.2.1,z12h.2.2.2.1,z12h.2.2.2.2.1,z12hhh.2.2.2.1,z12hhh.2.2.2.2.1,z12hhh.2.2.2.2.2.1,z12hhh.2.2.2.2.2.2.1,z12hhh.2.2.2.2.2.2.2))))
 else none
instance n08n_jp5000004 (x:q38T):ParC (vfi x):=by unfold vfi;(try dsimp only);exact⟨(vbo (vaf ((n49n_p _ _ _).p.bind fun y3=>((n47n_p _ _ _).p.bind fun y4=>((n08n_jp5000013 _).p.bind2 (fun z5=>(vab _)) (fun z6=>(vab _))))) (vaf ((n35n_p _ _ _).p.bind fun y7=>((n08n_jp5000013 _).p.bind2 (fun z8=>(vab _)) (fun z9=>(vab _)))) ((n50n_p _ _ _).p.bind fun y10=>((n08n_jp5000013 _).p.bind2 (fun z11=>(vab _)) (fun z12=>(vab _)))))) va5)⟩
def wf4 (a0:ByteArray)(k:q81T→Option Res):Option Res:=
 v9s a0 (fun y1=>
 bif (!y1.2)then
 k (0,0,0,0,0,false,(⟨#[]⟩:ByteArray),(⟨#[]⟩:ByteArray),false,0,0,false,([]:List vai),([]:List vag),([]:List vaa),([]:List dTxn),([]:List dTxn))
 else
 bif (vap y1.1 (⟨#[]⟩:ByteArray))then
 k (0,0,0,0,0,false,(⟨#[]⟩:ByteArray),(⟨#[]⟩:ByteArray),false,0,0,false,([]:List vai),([]:List vag),([]:List vaa),([]:List dTxn),([]:List dTxn))
 else
 vfi (a0,false,y1.1,0,0,0,0,0,false,(⟨#[]⟩:ByteArray),(⟨#[]⟩:ByteArray),false,0,0,([]:List vai),([]:List vag),([]:List vaa),([]:List dTxn),([]:List dTxn)) (fun z2=>
 let z2h:=z2.2.2.2.2.2.2.2.2
 let z2hh:=z2h.2.2.2.2.2.2.2.2
 k (z2.2.2.1,z2.2.2.2.1,z2.2.2.2.2.1,z2.2.2.2.2.2.1,z2.2.2.2.2.2.2.1,z2.2.2.2.2.2.2.2.1,z2h.1,z2h.2.1,z2h.2.2.1,z2h.2.2.2.1,z2h.2.2.2.2.1,z2.2.1,z2h.2.2.2.2.2.1,z2h.2.2.2.2.2.2.1,z2h.2.2.2.2.2.2.2.1,z2hh.1,z2hh.2)))
def vrd:=shut wf4
theorem wly:vrd=wf4:=vaj _
instance n08n_p (a0:ByteArray):ParC (vrd a0):=by rw [wly];unfold wf4;(try dsimp only);infer_instance
def wff (a0:vai)(a1:vai)(k:Bool→Option Res):Option Res:=
 bif (!(vap a0.1 a1.1))then
 k false
 else
 bif (!(vap a0.2 a1.2))then
 k false
 else
 k true
def v4y:=shut wff
theorem wqn:v4y=wff:=vaj _
instance n59n_p (a0:vai)(a1:vai):ParC (v4y a0 a1):=by rw [wqn];unfold wff;(try dsimp only);infer_instance
def vof (x:q4T)(k:q4T⊕(q4T⊕q4T)→Option Res):Option Res:=
 bif (decide (x.2.2.2<(x.1.length:Int)))then
 if 0≤x.2.2.2∧x.2.2.2<(x.1.length:Int)then
 if 0≤x.2.2.2∧x.2.2.2<(x.2.1.length:Int)then
 v4y (rd (Ty.zero tRange) x.1 x.2.2.2) (rd (Ty.zero tRange) x.2.1 x.2.2.2) (fun y3=>
 bif (!y3)then
 k (.inr (.inl (x.1,x.2.1,false,x.2.2.2)))
 else
 k (.inl (x.1,x.2.1,x.2.2.1,(IntKind.wrap .i64 (x.2.2.2+1)))))
 else none
 else none
 else
 k (.inr (.inr (x.1,x.2.1,x.2.2.1,x.2.2.2)))
instance n60n_bp0 (x:q4T):ParC (vof x):=by unfold vof;(try dsimp only);infer_instance
def wiq (a0:(List vai))(a1:(List vai))(k:Bool→Option Res):Option Res:=
 bif ((a0.length:Int) != (a1.length:Int))then
 k false
 else
 vae vof Fuel (a0,a1,false,0) (Sum.elim (fun z1=>
 k z1.2.2.1) (fun _=>
 k true))
def v36:=shut wiq
theorem wro:v36=wiq:=vaj _
instance n60n_p (a0:(List vai))(a1:(List vai)):ParC (v36 a0 a1):=by rw [wro];unfold wiq;(try dsimp only);infer_instance
def wi8 (a0:vag)(a1:vag)(k:Bool→Option Res):Option Res:=
 bif (!(vap a0.1 a1.1))then
 k false
 else
 bif (!(vap a0.2.1 a1.2.1))then
 k false
 else
 bif (!(a0.2.2==a1.2.2))then
 k false
 else
 k true
def v4b:=shut wi8
theorem wp0:v4b=wi8:=vaj _
instance n66n_p (a0:vag)(a1:vag):ParC (v4b a0 a1):=by rw [wp0];unfold wi8;(try dsimp only);infer_instance
end
end Go.VE
