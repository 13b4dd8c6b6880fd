/- Native programs of the functions, written by gen.py. -/
import Derived.Test.YtcccpkohlkfhoaaT0
import Derived.Test.YtcccpkohlkfhoaaU28
namespace Go.VE
noncomputable section
set_option linter.unusedVariables false
set_option linter.unusedSimpArgs false
set_option maxRecDepth 100000
abbrev q0T:Type:=((List (List vaa))×Int×(List (List vaa))×Int×Int)
abbrev q1T:Type:=((List (List vaa))×Int×Int×(List vaa))
abbrev q2T:Type:=((List vam)×(List vam)×Bool×Int×Int)
abbrev q3T:Type:=((List vam)×(List vam)×Bool×Int)
abbrev q4T:Type:=((List vaa)×(List vaa)×Bool×Int)
abbrev q5T:Type:=((List vaa)×(List vaa)×Int×Bool×Int×ByteArray×ByteArray)
abbrev q6T:Type:=((List vaa)×(List vaa)×Int×Bool×Int×Int×ByteArray×ByteArray)
abbrev q7T:Type:=((List vaa)×ByteArray×Int×Int×(List vaa)×Int×Int)
abbrev q8T:Type:=((List vaa)×ByteArray×Int×Int×Int)
abbrev q9T:Type:=((List vaa)×Int×(List vaa))
abbrev q10T:Type:=((List vaa)×Int×ByteArray×ByteArray×(List ByteArray))
abbrev q11T:Type:=((List vaa)×Int×ByteArray×Int×ByteArray×ByteArray×(List ByteArray)×(List ByteArray))
abbrev q12T:Type:=((List vaa)×Int×Int×(List ByteArray))
abbrev q13T:Type:=((List vaa)×Int×Int×(List vam)×(List ByteArray))
abbrev q14T:Type:=((List vaa)×Int×Int×Int×ByteArray×ByteArray×(List vam)×(List ByteArray))
abbrev q15T:Type:=((List vaa)×Int×Int×Int)
abbrev q16T:Type:=(Bool×(List vaa)×(List vaa))
abbrev q17T:Type:=(ByteArray×ByteArray×Bool×Int)
abbrev q18T:Type:=(Int×(List ByteArray)×(List ByteArray))
abbrev q19T:Type:=(Int×Bool×Int×Int×(List vaa)×(List vaa)×(List vaa))
def vuk (a0:vaa)(a1:Int)(k:Int→Option Res):Option Res:=
 bif (decide ((IntKind.wrap .i64 (a1-(a0.1.size:Int)))<(0:Int)))then
 k (-1:Int)
 else
 bif (decide ((IntKind.wrap .i64 ((IntKind.wrap .i64 (a1-(a0.1.size:Int)))-(a0.2.1.size:Int)))<(0:Int)))then
 k (-1:Int)
 else
 k (IntKind.wrap .i64 ((IntKind.wrap .i64 (a1-(a0.1.size:Int)))-(a0.2.1.size:Int)))
def vmw:=shut vuk
theorem vx3:vmw=vuk:=vaz _
instance n11n_p (a0:vaa)(a1:Int):ParC (vmw a0 a1):=by rw [vx3];unfold vuk;(try dsimp only);infer_instance
def vgj (x:q15T)(k:q15T⊕(q15T⊕q15T)→Option Res):Option Res:=
 bif (decide (x.2.2.2<(x.1.length:Int)))then
 if 0≤x.2.2.2∧x.2.2.2<(x.1.length:Int)then
 vmw (rd (Ty.zero tVersion) x.1 x.2.2.2) x.2.1 (fun y3=>
 bif (decide (y3<0))then
 k (.inr (.inl (x.1,y3,(-1:Int),x.2.2.2)))
 else
 k (.inl (x.1,y3,x.2.2.1,(IntKind.wrap .i64 (x.2.2.2+1)))))
 else none
 else
 k (.inr (.inr (x.1,x.2.1,x.2.2.1,x.2.2.2)))
instance n12n_bp0 (x:q15T):ParC (vgj x):=by unfold vgj;(try dsimp only);infer_instance
def vup (a0:(List vaa))(a1:Int)(k:Int→Option Res):Option Res:=
 bif (decide ((IntKind.wrap .i64 (a1-(a0.length:Int)))<(0:Int)))then
 k (-1:Int)
 else
 vaf vgj Fuel (a0,(IntKind.wrap .i64 (a1-(a0.length:Int))),0,0) (Sum.elim (fun z1=>
 k z1.2.2.1) (fun z2=>
 k z2.2.1))
def vmu:=shut vup
theorem vw9:vmu=vup:=vaz _
instance n12n_p (a0:(List vaa))(a1:Int):ParC (vmu a0 a1):=by rw [vw9];unfold vup;(try dsimp only);infer_instance
def vwa (a0:vaa)(k:q17T→Option Res):Option Res:=
 k (a0.1,a0.2.1,a0.2.2.1,a0.2.2.2)
def vnb:=shut vwa
theorem vwe:vnb=vwa:=vaz _
instance n13n_p (a0:vaa):ParC (vnb a0):=by rw [vwe];unfold vwa;(try dsimp only);infer_instance
def vgi (x:q9T)(k:q9T⊕q9T→Option Res):Option Res:=
 bif (decide (x.2.1<(x.1.length:Int)))then
 if 0≤x.2.1∧x.2.1<(x.1.length:Int)then
 vnb (rd (Ty.zero tVersion) x.1 x.2.1) (fun y2=>
 if 0≤x.2.1∧x.2.1<(x.2.2.length:Int)then
 k (.inl (x.1,(IntKind.wrap .i64 (x.2.1+1)),(x.2.2.set x.2.1.toNat y2)))
 else none)
 else none
 else
 k (.inr (x.1,x.2.1,x.2.2))
instance n14n_bp0 (x:q9T):ParC (vgi x):=by unfold vgi;(try dsimp only);infer_instance
def vto (a0:(List vaa))(k:(List vaa)→Option Res):Option Res:=
 if 0≤(a0.length:Int)∧(a0.length:Int)≤(a0.length:Int)∧(a0.length:Int)≤(VE.maxLen:Int)then
 vaf vgi Fuel (a0,0,(List.replicate (a0.length:Int).toNat (Ty.zero tVersion))) (fun z1=>
 k z1.2.2)
 else none
def vgw:=shut vto
theorem vx0:vgw=vto:=vaz _
instance n14n_p (a0:(List vaa)):ParC (vgw a0):=by rw [vx0];unfold vto;(try dsimp only);infer_instance
def vx1  (k:(ByteArray×ByteArray)→Option Res):Option Res:=
 k ((⟨#[97]⟩:ByteArray),(⟨#[122,122,122]⟩:ByteArray))
def vrh:=shut vx1
theorem vw1:vrh=vx1:=vaz _
instance n24n_p  : ParC (vrh ):=by rw [vw1];unfold vx1;(try dsimp only);infer_instance
def vub (a0:vam)(a1:ByteArray)(k:Bool→Option Res):Option Res:=
 bif (!(vad a1 a0.1))then
 k ((vad a1 a0.2)||(vbm a1 a0.2))
 else
 k false
def vmr:=shut vub
theorem vw6:vmr=vub:=vaz _
instance n20n_p (a0:vam)(a1:ByteArray):ParC (vmr a0 a1):=by rw [vw6];unfold vub;(try dsimp only);infer_instance
def vgn (x:q11T)(k:q11T⊕q11T→Option Res):Option Res:=
 bif (decide (x.2.2.2.1<(x.2.2.2.2.2.2.1.length:Int)))then
 if 0≤x.2.2.2.1∧x.2.2.2.1<(x.2.2.2.2.2.2.1.length:Int)then
 bif (vad (x.2.2.2.2.2.2.1.getD x.2.2.2.1.toNat (Ty.zero .str)) x.2.2.1)then
 if 0≤x.2.2.2.1∧x.2.2.2.1<(x.2.2.2.2.2.2.1.length:Int)then
 if x.2.2.2.2.2.2.2.length+[(x.2.2.2.2.2.2.1.getD x.2.2.2.1.toNat (Ty.zero .str))].length≤VE.maxLen then
 k (.inl (x.1,x.2.1,x.2.2.1,(IntKind.wrap .i64 (x.2.2.2.1+(1:Int))),x.2.2.2.2.1,x.2.2.2.2.2.1,x.2.2.2.2.2.2.1,(x.2.2.2.2.2.2.2++[(x.2.2.2.2.2.2.1.getD x.2.2.2.1.toNat (Ty.zero .str))])))
 else none
 else none
 else
 k (.inl (x.1,x.2.1,x.2.2.1,(IntKind.wrap .i64 (x.2.2.2.1+1)),x.2.2.2.2.1,x.2.2.2.2.2.1,x.2.2.2.2.2.2.1,x.2.2.2.2.2.2.2))
 else none
 else
 k (.inr (x.1,x.2.1,x.2.2.1,x.2.2.2.1,x.2.2.2.2.1,x.2.2.2.2.2.1,x.2.2.2.2.2.2.1,x.2.2.2.2.2.2.2))
instance n26n_bp2 (x:q11T):ParC (vgn x):=by unfold vgn;(try dsimp only);infer_instance
def vfz (x:q11T)(k:q11T⊕q11T→Option Res):Option Res:=
 bif (decide (x.2.2.2.1<(x.2.2.2.2.2.2.1.length:Int)))then
 if 0≤x.2.2.2.1∧x.2.2.2.1<(x.2.2.2.2.2.2.1.length:Int)then
 bif (!((vad (x.2.2.2.2.2.2.1.getD x.2.2.2.1.toNat (Ty.zero .str)) x.2.2.1)||(vbm (x.2.2.2.2.2.2.1.getD x.2.2.2.1.toNat (Ty.zero .str)) x.2.2.1)))then
 if 0≤x.2.2.2.1∧x.2.2.2.1<(x.2.2.2.2.2.2.1.length:Int)then
 if x.2.2.2.2.2.2.2.length+[(x.2.2.2.2.2.2.1.getD x.2.2.2.1.toNat (Ty.zero .str))].length≤VE.maxLen then
 k (.inl (x.1,x.2.1,x.2.2.1,(IntKind.wrap .i64 (x.2.2.2.1+(1:Int))),x.2.2.2.2.1,x.2.2.2.2.2.1,x.2.2.2.2.2.2.1,(x.2.2.2.2.2.2.2++[(x.2.2.2.2.2.2.1.getD x.2.2.2.1.toNat (Ty.zero .str))])))
 else none
 else none
 else
 k (.inl (x.1,x.2.1,x.2.2.1,(IntKind.wrap .i64 (x.2.2.2.1+1)),x.2.2.2.2.1,x.2.2.2.2.2.1,x.2.2.2.2.2.2.1,x.2.2.2.2.2.2.2))
 else none
 else
 k (.inr (x.1,x.2.1,x.2.2.1,x.2.2.2.1,x.2.2.2.2.1,x.2.2.2.2.2.1,x.2.2.2.2.2.2.1,x.2.2.2.2.2.2.2))
instance n26n_bp4 (x:q11T):ParC (vfz x):=by unfold vfz;(try dsimp only);infer_instance
def vg0 (x:q10T)(k:q10T⊕q10T→Option Res):Option Res:=
 bif (decide (x.2.1<(x.1.length:Int)))then
 if 0≤x.2.1∧x.2.1<(x.1.length:Int)then
 vmr (x.2.2.1,x.2.2.2.1) ((rd (Ty.zero tVersion) x.1 x.2.1).1) (fun y2=>
 bif (!y2)then
 k (.inl (x.1,(IntKind.wrap .i64 (x.2.1+1)),x.2.2.1,x.2.2.2.1,x.2.2.2.2))
 else
 vaf vgn Fuel (x.1,x.2.1,(rd (Ty.zero tVersion) x.1 x.2.1).1,0,x.2.2.1,x.2.2.2.1,x.2.2.2.2,([]:List ByteArray)) (fun z3=>
 if z3.2.2.2.2.2.2.2.length+[z3.2.2.1].length≤VE.maxLen then
 vaf vfz Fuel (z3.1,z3.2.1,z3.2.2.1,0,z3.2.2.2.2.1,z3.2.2.2.2.2.1,z3.2.2.2.2.2.2.1,(z3.2.2.2.2.2.2.2++[z3.2.2.1])) (fun z4=>
 k (.inl (z4.1,(IntKind.wrap .i64 (z4.2.1+1)),z4.2.2.2.2.1,z4.2.2.2.2.2.1,z4.2.2.2.2.2.2.2)))
 else none))
 else none
 else
 k (.inr (x.1,x.2.1,x.2.2.1,x.2.2.2.1,x.2.2.2.2))
instance n26n_bp0 (x:q10T):ParC (vg0 x):=by unfold vg0;(try dsimp only);infer_instance
def vt8 (a0:(List vaa))(a1:vam)(k:(List ByteArray)→Option Res):Option Res:=
 vaf vg0 Fuel (a0,0,a1.1,a1.2,([]:List ByteArray)) (fun z1=>
 k z1.2.2.2.2)
def vq6:=shut vt8
theorem vv3:vq6=vt8:=vaz _
instance n26n_p (a0:(List vaa))(a1:vam):ParC (vq6 a0 a1):=by rw [vv3];unfold vt8;(try dsimp only);infer_instance
def vgl (x:q8T)(k:q8T⊕q8T→Option Res):Option Res:=
 let t0:=(IntKind.wrap .i64 (x.2.2.2.2+(1:Int)))
 bif (decide (x.2.2.2.2<(x.1.length:Int)))then
 if 0≤x.2.2.2.2∧x.2.2.2.2<(x.1.length:Int)then
 bif (vbm ((rd (Ty.zero tVersion) x.1 x.2.2.2.2).1) x.2.1)then
 if 0≤x.2.2.2.2∧x.2.2.2.2<(x.1.length:Int)then
 bif (decide ((rd (Ty.zero tVersion) x.1 x.2.2.2.2).2.2.2≤x.2.2.1))then
 bif (decide (x.2.2.2.1<0))then
 k (.inl (x.1,x.2.1,x.2.2.1,x.2.2.2.2,t0))
 else
 if 0≤x.2.2.2.2∧x.2.2.2.2<(x.1.length:Int)then
 if 0≤x.2.2.2.1∧x.2.2.2.1<(x.1.length:Int)then
 bif (decide ((rd (Ty.zero tVersion) x.1 x.2.2.2.2).2.2.2>(rd (Ty.zero tVersion) x.1 x.2.2.2.1).2.2.2))then
 k (.inl (x.1,x.2.1,x.2.2.1,x.2.2.2.2,t0))
 else
 k (.inl (x.1,x.2.1,x.2.2.1,x.2.2.2.1,t0))
 else none
 else none
 else
 k (.inl (x.1,x.2.1,x.2.2.1,x.2.2.2.1,t0))
 else none
 else
 k (.inl (x.1,x.2.1,x.2.2.1,x.2.2.2.1,t0))
 else none
 else
 k (.inr (x.1,x.2.1,x.2.2.1,x.2.2.2.1,x.2.2.2.2))
instance n25n_bp0 (x:q8T):ParC (vgl x):=by unfold vgl;(try dsimp only);infer_instance
def vua (a0:(List vaa))(a1:ByteArray)(a2:Int)(k:Int→Option Res):Option Res:=
 vaf vgl Fuel (a0,a1,a2,(-1:Int),0) (fun z1=>
 k z1.2.2.2.1)
def vm7:=shut vua
theorem vxs:vm7=vua:=vaz _
instance n25n_p (a0:(List vaa))(a1:ByteArray)(a2:Int):ParC (vm7 a0 a1 a2):=by rw [vxs];unfold vua;(try dsimp only);infer_instance
def vt5 (a0:(List vaa))(a1:ByteArray)(a2:Int)(k:(ByteArray×Bool)→Option Res):Option Res:=
 vm7 a0 a1 a2 (fun y1=>
 bif (decide (y1<0))then
 k ((⟨#[]⟩:ByteArray),false)
 else
 if 0≤y1∧y1<(a0.length:Int)then
 bif (rd (Ty.zero tVersion) a0 y1).2.2.1 then
 k ((⟨#[]⟩:ByteArray),false)
 else
 if 0≤y1∧y1<(a0.length:Int)then
 k ((rd (Ty.zero tVersion) a0 y1).2.1,true)
 else none
 else none)
def vq2:=shut vt5
theorem vv0:vq2=vt5:=vaz _
instance n23n_p (a0:(List vaa))(a1:ByteArray)(a2:Int):ParC (vq2 a0 a1 a2):=by rw [vv0];unfold vt5;(try dsimp only);infer_instance
def vf4 (x:q13T)(k:q13T⊕q13T→Option Res):Option Res:=
 bif (decide (x.2.2.1<(x.2.2.2.2.length:Int)))then
 if 0≤x.2.2.1∧x.2.2.1<(x.2.2.2.2.length:Int)then
 vq2 x.1 (x.2.2.2.2.getD x.2.2.1.toNat (Ty.zero .str)) x.2.1 (fun y3=>
 bif y3.2 then
 if 0≤x.2.2.1∧x.2.2.1<(x.2.2.2.2.length:Int)then
 if x.2.2.2.1.length+[((x.2.2.2.2.getD x.2.2.1.toNat (Ty.zero .str)),y3.1)].length≤VE.maxLen then
 k (.inl (x.1,x.2.1,(IntKind.wrap .i64 (x.2.2.1+(1:Int))),(x.2.2.2.1++[((x.2.2.2.2.getD x.2.2.1.toNat (Ty.zero .str)),y3.1)]),x.2.2.2.2))
 else none
 else none
 else
 k (.inl (x.1,x.2.1,(IntKind.wrap .i64 (x.2.2.1+1)),x.2.2.2.1,x.2.2.2.2)))
 else none
 else
 k (.inr (x.1,x.2.1,x.2.2.1,x.2.2.2.1,x.2.2.2.2))
instance n22n_bp0 (x:q13T):ParC (vf4 x):=by unfold vf4;(try dsimp only);infer_instance
def vt4 (a0:(List vaa))(a1:vam)(a2:Int)(k:(List vam)→Option Res):Option Res:=
 vq6 a0 a1 (fun y1=>
 vaf vf4 Fuel (a0,a2,0,([]:List vam),y1) (fun z2=>
 k z2.2.2.2.1))
def vio:=shut vt4
theorem vyg:vio=vt4:=vaz _
instance n22n_p (a0:(List vaa))(a1:vam)(a2:Int):ParC (vio a0 a1 a2):=by rw [vyg];unfold vt4;(try dsimp only);infer_instance
def vgd (x:q3T)(k:q3T⊕(q3T⊕q3T)→Option Res):Option Res:=
 bif (decide (x.2.2.2<(x.1.length:Int)))then
 if 0≤x.2.2.2∧x.2.2.2<(x.1.length:Int)then
 if 0≤x.2.2.2∧x.2.2.2<(x.2.1.length:Int)then
 bif (!(Ty.eqB tRange (rd (Ty.zero tRange) x.1 x.2.2.2) (rd (Ty.zero tRange) x.2.1 x.2.2.2)))then
 k (.inr (.inl (x.1,x.2.1,false,x.2.2.2)))
 else
 k (.inl (x.1,x.2.1,x.2.2.1,(IntKind.wrap .i64 (x.2.2.2+1))))
 else none
 else none
 else
 k (.inr (.inr (x.1,x.2.1,x.2.2.1,x.2.2.2)))
instance n27n_bp0 (x:q3T):ParC (vgd x):=by unfold vgd;(try dsimp only);infer_instance
def vum (a0:(List vam))(a1:(List vam))(k:Bool→Option Res):Option Res:=
 bif ((a0.length:Int) != (a1.length:Int))then
 k false
 else
 vaf vgd Fuel (a0,a1,false,0) (Sum.elim (fun z1=>
 k z1.2.2.1) (fun _=>
 k true))
def vk9:=shut vum
theorem vxy:vk9=vum:=vaz _
instance n27n_p (a0:(List vam))(a1:(List vam)):ParC (vk9 a0 a1):=by rw [vxy];unfold vum;(try dsimp only);infer_instance
def vbl (x:q6T)(k:(q6T⊕q6T)→Option Res):Option Res:=
 bif (decide (x.2.2.2.2.2.1>x.2.2.1))then
 vio x.1 x.2.2.2.2.2.2 x.2.2.2.2.2.1 (fun y11=>
 vio x.2.1 x.2.2.2.2.2.2 x.2.2.2.2.2.1 (fun y12=>
 vk9 y11 y12 (fun y13=>
 bif (!y13)then
 k (.inl (x.1,x.2.1,x.2.2.1,false,x.2.2.2.2.1,x.2.2.2.2.2.1,x.2.2.2.2.2.2.1,x.2.2.2.2.2.2.2))
 else
 k (.inr (x.1,x.2.1,x.2.2.1,x.2.2.2.1,x.2.2.2.2.1,x.2.2.2.2.2.1,x.2.2.2.2.2.2.1,x.2.2.2.2.2.2.2)))))
 else
 k (.inr (x.1,x.2.1,x.2.2.1,x.2.2.2.1,x.2.2.2.2.1,x.2.2.2.2.2.1,x.2.2.2.2.2.2.1,x.2.2.2.2.2.2.2))
instance n21n_jp5000011 (x:q6T):ParC (vbl x):=by unfold vbl;(try dsimp only);infer_instance
def vfb (x:q5T)(k:q5T⊕(q5T⊕q5T)→Option Res):Option Res:=
 let t0:=(IntKind.wrap .i64 (x.2.2.2.2.1-(x.1.length:Int)))
 bif (decide (x.2.2.2.2.1<(IntKind.wrap .i64 ((x.1.length:Int)+(x.2.1.length:Int)))))then
 bif (decide (x.2.2.2.2.1<(x.1.length:Int)))then
 if 0≤x.2.2.2.2.1∧x.2.2.2.2.1<(x.1.length:Int)then
 vbl (x.1,x.2.1,x.2.2.1,x.2.2.2.1,x.2.2.2.2.1,(rd (Ty.zero tVersion) x.1 x.2.2.2.2.1).2.2.2,x.2.2.2.2.2.1,x.2.2.2.2.2.2) (Sum.elim (fun z7=>
 k (.inr (.inr (z7.1,z7.2.1,z7.2.2.1,z7.2.2.2.1,z7.2.2.2.2.1,z7.2.2.2.2.2.2.1,z7.2.2.2.2.2.2.2)))) (fun z8=>
 k (.inl (z8.1,z8.2.1,z8.2.2.1,z8.2.2.2.1,(IntKind.wrap .i64 (z8.2.2.2.2.1+1)),z8.2.2.2.2.2.2.1,z8.2.2.2.2.2.2.2))))
 else none
 else
 if 0≤t0∧t0<(x.2.1.length:Int)then
 vbl (x.1,x.2.1,x.2.2.1,x.2.2.2.1,x.2.2.2.2.1,(rd (Ty.zero tVersion) x.2.1 t0).2.2.2,x.2.2.2.2.2.1,x.2.2.2.2.2.2) (Sum.elim (fun z9=>
 k (.inr (.inr (z9.1,z9.2.1,z9.2.2.1,z9.2.2.2.1,z9.2.2.2.2.1,z9.2.2.2.2.2.2.1,z9.2.2.2.2.2.2.2)))) (fun z10=>
 k (.inl (z10.1,z10.2.1,z10.2.2.1,z10.2.2.2.1,(IntKind.wrap .i64 (z10.2.2.2.2.1+1)),z10.2.2.2.2.2.2.1,z10.2.2.2.2.2.2.2))))
 else none
 else
 k (.inr (.inl (x.1,x.2.1,x.2.2.1,x.2.2.2.1,x.2.2.2.2.1,x.2.2.2.2.2.1,x.2.2.2.2.2.2)))
instance n21n_bp0 (x:q5T):ParC (vfb x):=by unfold vfb;(try dsimp only);infer_instance
def vuc (a0:(List vaa))(a1:(List vaa))(a2:Int)(k:Bool→Option Res):Option Res:=
 vrh  (fun y1=>
 vio a0 y1 a2 (fun y2=>
 vio a1 y1 a2 (fun y3=>
 vk9 y2 y3 (fun y4=>
 bif (!y4)then
 k false
 else
 vaf vfb Fuel (a0,a1,a2,false,0,y1.1,y1.2) (Sum.elim (fun _=>
 k true) (fun z6=>
 k z6.2.2.2.1))))))
def vqw:=shut vuc
theorem vwl:vqw=vuc:=vaz _
instance n21n_p (a0:(List vaa))(a1:(List vaa))(a2:Int):ParC (vqw a0 a1 a2):=by rw [vwl];unfold vuc;(try dsimp only);infer_instance
def vtw (a0:Int)(k:(List vaa)→Option Res):Option Res:=
 bif (decide (a0<0))then
 none
 else
 bif (decide ((IntKind.wrap .i64 (a0-(IntKind.wrap .i64 ((0:Int)-0))))>(0:Int)))then
 if 0≤(0:Int)∧(0:Int)≤(0:Int)∧(0:Int)≤0 then
 if 0≤(IntKind.wrap .i64 (a0-(IntKind.wrap .i64 ((0:Int)-0))))∧(IntKind.wrap .i64 (a0-(IntKind.wrap .i64 ((0:Int)-0))))≤(VE.maxLen:Int)then
 if 0≤(0:Int)∧(0:Int)≤((List.replicate (IntKind.wrap .i64 (a0-(IntKind.wrap .i64 ((0:Int)-0)))).toNat (Ty.zero tVersion)).length:Int)then
 k ((List.replicate (IntKind.wrap .i64 (a0-(IntKind.wrap .i64 ((0:Int)-0)))).toNat (Ty.zero tVersion)).take (0:Int).toNat)
 else none
 else none
 else none
 else
 k ([]:List vaa)
def vmz:=shut vtw
theorem vyd:vmz=vtw:=vaz _
instance n18n_p (a0:Int):ParC (vmz a0):=by rw [vyd];unfold vtw;(try dsimp only);infer_instance
def vfx (x:q0T)(k:q0T⊕q0T→Option Res):Option Res:=
 bif (decide (x.2.2.2.2<x.2.2.2.1))then
 if 0≤x.2.2.2.2∧x.2.2.2.2<(x.2.2.1.length:Int)then
 bif (decide ((IntKind.wrap .i64 (x.2.1+((rd (Ty.zero (.slice tVersion)) x.2.2.1 x.2.2.2.2).length:Int)))<(0:Int)))then
 none
 else
 k (.inl (x.1,(IntKind.wrap .i64 (x.2.1+((rd (Ty.zero (.slice tVersion)) x.2.2.1 x.2.2.2.2).length:Int))),x.2.2.1,x.2.2.2.1,(IntKind.wrap .i64 (x.2.2.2.2+1))))
 else none
 else
 k (.inr (x.1,x.2.1,x.2.2.1,x.2.2.2.1,x.2.2.2.2))
instance n16n_bp0 (x:q0T):ParC (vfx x):=by unfold vfx;(try dsimp only);infer_instance
def vf8 (x:q1T)(k:q1T⊕q1T→Option Res):Option Res:=
 bif (decide (x.2.2.1<x.2.1))then
 if 0≤x.2.2.1∧x.2.2.1<(x.1.length:Int)then
 if x.2.2.2.length+(rd (Ty.zero (.slice tVersion)) x.1 x.2.2.1).length≤VE.maxLen then
 k (.inl (x.1,x.2.1,(IntKind.wrap .i64 (x.2.2.1+1)),(x.2.2.2++(rd (Ty.zero (.slice tVersion)) x.1 x.2.2.1))))
 else none
 else none
 else
 k (.inr (x.1,x.2.1,x.2.2.1,x.2.2.2))
instance n16n_bp2 (x:q1T):ParC (vf8 x):=by unfold vf8;(try dsimp only);infer_instance
def vuo (a0:(List (List vaa)))(k:(List vaa)→Option Res):Option Res:=
 vaf vfx Fuel (a0,0,a0,(a0.length:Int),0) (fun z1=>
 vmz z1.2.1 (fun y2=>
 vaf vf8 Fuel (z1.1,(z1.1.length:Int),0,y2) (fun z3=>
 k z3.2.2.2)))
def vnq:=shut vuo
theorem vv6:vnq=vuo:=vaz _
instance n16n_p (a0:(List (List vaa))):ParC (vnq a0):=by rw [vv6];unfold vuo;(try dsimp only);infer_instance
def vvz  (k:(ByteArray×ByteArray)→Option Res):Option Res:=
 k ((⟨#[97]⟩:ByteArray),(⟨#[122,122,122]⟩:ByteArray))
def vmm:=shut vvz
theorem vwo:vmm=vvz:=vaz _
instance n05n_p  : ParC (vmm ):=by rw [vwo];unfold vvz;(try dsimp only);infer_instance
def vqg (a0:(List ByteArray))(k:(List ByteArray)→Option Res):Option Res:=
 if a0.length≤1000000000 then
 k (ve9 a0)
 else none
def vnh:=shut vqg
theorem vwv:vnh=vqg:=vaz _
instance n19n_p (a0:(List ByteArray)):ParC (vnh a0):=by rw [vwv];unfold vqg;(try dsimp only);infer_instance
def vfg (x:(Int×Nat×Int×(List ByteArray)))(k:(Int×Nat×Int×(List ByteArray))⊕(Int×Nat×Int×(List ByteArray))→Option Res):Option Res:=
 bif (decide (x.2.2.1<((x.2.2.2.length:Int)-((x.2.1:Nat):Int))))then
 if 0≤x.2.2.1∧x.2.2.1<(x.2.2.2.length:Int)-((x.2.1:Nat):Int)then
 if 0≤(IntKind.wrap .i64 (x.2.2.1-1))∧(IntKind.wrap .i64 (x.2.2.1-1))<(x.2.2.2.length:Int)-((x.2.1:Nat):Int)then
 bif (!(vbm (x.2.2.2.getD (x.2.1+x.2.2.1.toNat) (Ty.zero .str)) (x.2.2.2.getD (x.2.1+(IntKind.wrap .i64 (x.2.2.1-1)).toNat) (Ty.zero .str))))then
 if 0≤x.2.2.1∧x.2.2.1<(x.2.2.2.length:Int)-((x.2.1:Nat):Int)then
 if 0≤x.1∧x.1<(x.2.2.2.length:Int)then
 k (.inl ((IntKind.wrap .i64 (x.1+1)),x.2.1,(IntKind.wrap .i64 (x.2.2.1+1)),(x.2.2.2.set x.1.toNat (x.2.2.2.getD (x.2.1+x.2.2.1.toNat) (Ty.zero .str)))))
 else none
 else none
 else
 k (.inl (x.1,x.2.1,(IntKind.wrap .i64 (x.2.2.1+1)),x.2.2.2))
 else none
 else none
 else
 k (.inr (x.1,x.2.1,x.2.2.1,x.2.2.2))
instance n15n_bp2 (x:(Int×Nat×Int×(List ByteArray))):ParC (vfg x):=by unfold vfg;(try dsimp only);infer_instance
def ven (x:q18T)(k:q18T⊕(q18T⊕(Int×(List ByteArray)))→Option Res):Option Res:=
 bif (decide (x.1<(x.2.1.length:Int)))then
 if 0≤x.1∧x.1<(x.2.1.length:Int)then
 if 0≤(IntKind.wrap .i64 (x.1-1))∧(IntKind.wrap .i64 (x.1-1))<(x.2.1.length:Int)then
 bif (vbm (x.2.1.getD x.1.toNat (Ty.zero .str)) (x.2.1.getD (IntKind.wrap .i64 (x.1-1)).toNat (Ty.zero .str)))then
 if 0≤x.1∧x.1≤(x.2.1.length:Int)then
 vaf vfg Fuel (x.1,x.1.toNat,1,x.2.1) (fun z3=>
 if 0≤z3.1∧z3.1≤(z3.2.2.2.length:Int)then
 if 0≤z3.1∧z3.1≤((z3.2.2.2.take z3.1.toNat++List.replicate (z3.2.2.2.length-z3.1.toNat) (Ty.zero .str)).length:Int)then
 k (.inr (.inr (z3.1,((z3.2.2.2.take z3.1.toNat++List.replicate (z3.2.2.2.length-z3.1.toNat) (Ty.zero .str)).take z3.1.toNat))))
 else none
 else none)
 else none
 else
 k (.inl ((IntKind.wrap .i64 (x.1+1)),x.2.1,x.2.2))
 else none
 else none
 else
 k (.inr (.inl (x.1,x.2.1,x.2.2)))
instance n15n_bp0 (x:q18T):ParC (ven x):=by unfold ven;(try dsimp only);infer_instance
def vut (a0:(List ByteArray))(k:((List ByteArray)⊕(List ByteArray))→Option Res):Option Res:=
 bif (decide ((a0.length:Int)<(2:Int)))then
 k (.inl a0)
 else
 vaf ven Fuel (1,a0,([]:List ByteArray)) (Sum.elim (fun z1=>
 k (.inl z1.2.1)) (fun z2=>
 k (.inr z2.2)))
def vl8:=shut vut
theorem vv5:vl8=vut:=vaz _
instance n15n_p (a0:(List ByteArray)):ParC (vl8 a0):=by rw [vv5];unfold vut;(try dsimp only);infer_instance
def vgr (x:q12T)(k:q12T⊕q12T→Option Res):Option Res:=
 bif (decide (x.2.2.1<x.2.1))then
 if 0≤x.2.2.1∧x.2.2.1<(x.1.length:Int)then
 if x.2.2.2.length+[(rd (Ty.zero tVersion) x.1 x.2.2.1).1].length≤VE.maxLen then
 k (.inl (x.1,x.2.1,(IntKind.wrap .i64 (x.2.2.1+(1:Int))),(x.2.2.2++[(rd (Ty.zero tVersion) x.1 x.2.2.1).1])))
 else none
 else none
 else
 k (.inr (x.1,x.2.1,x.2.2.1,x.2.2.2))
instance n06n_bp0 (x:q12T):ParC (vgr x):=by unfold vgr;(try dsimp only);infer_instance
def vuu (a0:(List vaa))(k:(List ByteArray)→Option Res):Option Res:=
 vaf vgr Fuel (a0,(a0.length:Int),0,([]:List ByteArray)) (fun z1=>
 vnh z1.2.2.2 (fun y2=>
 vl8 y2 (Sum.elim (fun y3=>
 k y3) (fun y4=>
 k y4))))
def vny:=shut vuu
theorem vwy:vny=vuu:=vaz _
instance n06n_p (a0:(List vaa)):ParC (vny a0):=by rw [vwy];unfold vuu;(try dsimp only);infer_instance
def vgs (x:q7T)(k:q7T⊕q7T→Option Res):Option Res:=
 let t0:=(x.1,x.2.1,x.2.2.1,x.2.2.2.1,x.2.2.2.2.1,x.2.2.2.2.2.1,(IntKind.wrap .i64 (x.2.2.2.2.2.2+(1:Int))))
 bif (decide (x.2.2.2.2.2.2<x.2.2.2.2.2.1))then
 if 0≤x.2.2.2.2.2.2∧x.2.2.2.2.2.2<(x.2.2.2.2.1.length:Int)then
 bif (vbm ((rd (Ty.zero tVersion) x.2.2.2.2.1 x.2.2.2.2.2.2).1) x.2.1)then
 bif (decide ((rd (Ty.zero tVersion) x.2.2.2.2.1 x.2.2.2.2.2.2).2.2.2≤x.2.2.1))then
 bif (decide (x.2.2.2.1<0))then
 k (.inl (x.1,x.2.1,x.2.2.1,x.2.2.2.2.2.2,x.2.2.2.2.1,x.2.2.2.2.2.1,(IntKind.wrap .i64 (x.2.2.2.2.2.2+1))))
 else
 if 0≤x.2.2.2.1∧x.2.2.2.1<(x.1.length:Int)then
 bif (decide ((rd (Ty.zero tVersion) x.2.2.2.2.1 x.2.2.2.2.2.2).2.2.2>(rd (Ty.zero tVersion) x.1 x.2.2.2.1).2.2.2))then
 k (.inl (x.1,x.2.1,x.2.2.1,x.2.2.2.2.2.2,x.2.2.2.2.1,x.2.2.2.2.2.1,(IntKind.wrap .i64 (x.2.2.2.2.2.2+1))))
 else
 k (.inl t0)
 else none
 else
 k (.inl t0)
 else
 k (.inl t0)
 else none
 else
 k (.inr (x.1,x.2.1,x.2.2.1,x.2.2.2.1,x.2.2.2.2.1,x.2.2.2.2.2.1,x.2.2.2.2.2.2))
instance n07n_bp0 (x:q7T):ParC (vgs x):=by unfold vgs;(try dsimp only);infer_instance
def vtk (a0:(List vaa))(a1:ByteArray)(a2:Int)(k:Int→Option Res):Option Res:=
 vaf vgs Fuel (a0,a1,a2,(-1:Int),a0,(a0.length:Int),0) (fun z1=>
 k z1.2.2.2.1)
def vn2:=shut vtk
theorem vxz:vn2=vtk:=vaz _
instance n07n_p (a0:(List vaa))(a1:ByteArray)(a2:Int):ParC (vn2 a0 a1 a2):=by rw [vxz];unfold vtk;(try dsimp only);infer_instance
def vul (a0:(List vaa))(a1:ByteArray)(a2:Int)(k:(ByteArray×Bool)→Option Res):Option Res:=
 vn2 a0 a1 a2 (fun y1=>
 bif (decide (y1<0))then
 k ((⟨#[]⟩:ByteArray),false)
 else
 if 0≤y1∧y1<(a0.length:Int)then
 bif (rd (Ty.zero tVersion) a0 y1).2.2.1 then
 k ((⟨#[]⟩:ByteArray),false)
 else
 if 0≤y1∧y1<(a0.length:Int)then
 k ((rd (Ty.zero tVersion) a0 y1).2.1,true)
 else none
 else none)
def vrf:=shut vul
theorem vw2:vrf=vul:=vaz _
instance n04n_p (a0:(List vaa))(a1:ByteArray)(a2:Int):ParC (vrf a0 a1 a2):=by rw [vw2];unfold vul;(try dsimp only);infer_instance
def vtm (a0:vam)(a1:ByteArray)(k:Bool→Option Res):Option Res:=
 bif (!(vad a1 a0.1))then
 k ((vad a1 a0.2)||(vbm a1 a0.2))
 else
 k false
def vn0:=shut vtm
theorem vv4:vn0=vtm:=vaz _
instance n00n_p (a0:vam)(a1:ByteArray):ParC (vn0 a0 a1):=by rw [vv4];unfold vtm;(try dsimp only);infer_instance
def vfa (x:q14T)(k:q14T⊕q14T→Option Res):Option Res:=
 let t0:=(x.2.2.2.2.2.2.2.getD x.2.2.2.1.toNat (Ty.zero .str))
 bif (decide (x.2.2.2.1<x.2.2.1))then
 if 0≤x.2.2.2.1∧x.2.2.2.1<(x.2.2.2.2.2.2.2.length:Int)then
 vrf x.1 t0 x.2.1 (fun y3=>
 bif y3.2 then
 vn0 (x.2.2.2.2.1,x.2.2.2.2.2.1) t0 (fun y4=>
 bif y4 then
 if x.2.2.2.2.2.2.1.length+[(t0,y3.1)].length≤VE.maxLen then
 k (.inl (x.1,x.2.1,x.2.2.1,(IntKind.wrap .i64 (x.2.2.2.1+(1:Int))),x.2.2.2.2.1,x.2.2.2.2.2.1,(x.2.2.2.2.2.2.1++[(t0,y3.1)]),x.2.2.2.2.2.2.2))
 else none
 else
 k (.inl (x.1,x.2.1,x.2.2.1,(IntKind.wrap .i64 (x.2.2.2.1+1)),x.2.2.2.2.1,x.2.2.2.2.2.1,x.2.2.2.2.2.2.1,x.2.2.2.2.2.2.2)))
 else
 k (.inl (x.1,x.2.1,x.2.2.1,(IntKind.wrap .i64 (x.2.2.2.1+1)),x.2.2.2.2.1,x.2.2.2.2.2.1,x.2.2.2.2.2.2.1,x.2.2.2.2.2.2.2)))
 else none
 else
 k (.inr (x.1,x.2.1,x.2.2.1,x.2.2.2.1,x.2.2.2.2.1,x.2.2.2.2.2.1,x.2.2.2.2.2.2.1,x.2.2.2.2.2.2.2))
instance n03n_bp0 (x:q14T):ParC (vfa x):=by unfold vfa;(try dsimp only);infer_instance
def vuj (a0:(List vaa))(a1:vam)(a2:Int)(k:(List vam)→Option Res):Option Res:=
 vny a0 (fun y1=>
 vaf vfa Fuel (a0,a2,(y1.length:Int),0,a1.1,a1.2,([]:List vam),y1) (fun z2=>
 k z2.2.2.2.2.2.2.1))
def vnp:=shut vuj
theorem vwc:vnp=vuj:=vaz _
instance n03n_p (a0:(List vaa))(a1:vam)(a2:Int):ParC (vnp a0 a1 a2):=by rw [vwc];unfold vuj;(try dsimp only);infer_instance
def vgq (x:q2T)(k:q2T⊕(q2T⊕q2T)→Option Res):Option Res:=
 bif (decide (x.2.2.2.2<x.2.2.2.1))then
 if 0≤x.2.2.2.2∧x.2.2.2.2<(x.1.length:Int)then
 if 0≤x.2.2.2.2∧x.2.2.2.2<(x.2.1.length:Int)then
 bif (!(Ty.eqB tRange (rd (Ty.zero tRange) x.1 x.2.2.2.2) (rd (Ty.zero tRange) x.2.1 x.2.2.2.2)))then
 k (.inr (.inl (x.1,x.2.1,false,x.2.2.2.1,x.2.2.2.2)))
 else
 k (.inl (x.1,x.2.1,x.2.2.1,x.2.2.2.1,(IntKind.wrap .i64 (x.2.2.2.2+1))))
 else none
 else none
 else
 k (.inr (.inr (x.1,x.2.1,x.2.2.1,x.2.2.2.1,x.2.2.2.2)))
instance n17n_bp0 (x:q2T):ParC (vgq x):=by unfold vgq;(try dsimp only);infer_instance
def vts (a0:(List vam))(a1:(List vam))(k:Bool→Option Res):Option Res:=
 bif ((a0.length:Int) != (a1.length:Int))then
 k false
 else
 vaf vgq Fuel (a0,a1,false,(a0.length:Int),0) (Sum.elim (fun z1=>
 k z1.2.2.1) (fun _=>
 k true))
def vm4:=shut vts
theorem vwb:vm4=vts:=vaz _
instance n17n_p (a0:(List vam))(a1:(List vam)):ParC (vm4 a0 a1):=by rw [vwb];unfold vts;(try dsimp only);infer_instance
def vur (a0:Int)(a1:(List vaa))(a2:(List vaa))(k:q16T→Option Res):Option Res:=
 vmm  (fun y1=>
 vnp a1 y1 a0 (fun y2=>
 vmm  (fun y3=>
 vnp a2 y3 a0 (fun y4=>
 vm4 y2 y4 (fun y5=>
 k (y5,a1,a2))))))
def vmt:=shut vur
theorem vxv:vmt=vur:=vaz _
instance n02n_p (a0:Int)(a1:(List vaa))(a2:(List vaa)):ParC (vmt a0 a1 a2):=by rw [vxv];unfold vur;(try dsimp only);infer_instance
def vic (x:q19T)(k:q19T⊕(q19T⊕q19T)→Option Res):Option Res:=
 bif (decide (x.2.2.2.1<x.2.2.1))then
 if 0≤x.2.2.2.1∧x.2.2.2.1<(x.2.2.2.2.2.2.length:Int)then
 bif (decide ((x.2.2.2.2.2.2.getD x.2.2.2.1.toNat (Ty.zero tVersion)).2.2.2>x.1))then
 vmt ((x.2.2.2.2.2.2.getD x.2.2.2.1.toNat (Ty.zero tVersion)).2.2.2) x.2.2.2.2.1 x.2.2.2.2.2.1 (fun y5=>
 bif (!y5.1)then
 k (.inr (.inl (x.1,false,x.2.2.1,x.2.2.2.1,y5.2.1,y5.2.2,x.2.2.2.2.2.2)))
 else
 k (.inl (x.1,x.2.1,x.2.2.1,(IntKind.wrap .i64 (x.2.2.2.1+1)),y5.2.1,y5.2.2,x.2.2.2.2.2.2)))
 else
 k (.inl (x.1,x.2.1,x.2.2.1,(IntKind.wrap .i64 (x.2.2.2.1+1)),x.2.2.2.2.1,x.2.2.2.2.2.1,x.2.2.2.2.2.2))
 else none
 else
 k (.inr (.inr (x.1,x.2.1,x.2.2.1,x.2.2.2.1,x.2.2.2.2.1,x.2.2.2.2.2.1,x.2.2.2.2.2.2)))
instance n01n_bp0 (x:q19T):ParC (vic x):=by unfold vic;(try dsimp only);infer_instance
def vtv (a0:(List vaa))(a1:(List vaa))(a2:Int)(k:Bool→Option Res):Option Res:=
 vnq [a0,a1] (fun y1=>
 vaf vic Fuel (a2,false,(y1.length:Int),0,a0,a1,y1) (Sum.elim (fun z2=>
 k z2.2.1) (fun z3=>
 vmt z3.1 z3.2.2.2.2.1 z3.2.2.2.2.2.1 (fun y4=>
 k y4.1))))
def vpr:=shut vtv
theorem vxc:vpr=vtv:=vaz _
instance n01n_p (a0:(List vaa))(a1:(List vaa))(a2:Int):ParC (vpr a0 a1 a2):=by rw [vxc];unfold vtv;(try dsimp only);infer_instance
def vtu (a0:vaa)(a1:vaa)(k:Bool→Option Res):Option Res:=
 bif (!(vbm a0.1 a1.1))then
 k false
 else
 bif (!(vbm a0.2.1 a1.2.1))then
 k false
 else
 bif (!(a0.2.2.1==a1.2.2.1))then
 k false
 else
 bif (a0.2.2.2 != a1.2.2.2)then
 k false
 else
 k true
def vno:=shut vtu
theorem vxx:vno=vtu:=vaz _
instance n09n_p (a0:vaa)(a1:vaa):ParC (vno a0 a1):=by rw [vxx];unfold vtu;(try dsimp only);infer_instance
def vgt (x:q4T)(k:q4T⊕(q4T⊕q4T)→Option Res):Option Res:=
 bif (decide (x.2.2.2<(x.1.length:Int)))then
 if 0≤x.2.2.2∧x.2.2.2<(x.1.length:Int)then
 if 0≤x.2.2.2∧x.2.2.2<(x.2.1.length:Int)then
 vno (rd (Ty.zero tVersion) x.1 x.2.2.2) (rd (Ty.zero tVersion) x.2.1 x.2.2.2) (fun y3=>
 bif (!y3)then
 k (.inr (.inl (x.1,x.2.1,false,x.2.2.2)))
 else
 k (.inl (x.1,x.2.1,x.2.2.1,(IntKind.wrap .i64 (x.2.2.2+1)))))
 else none
 else none
 else
 k (.inr (.inr (x.1,x.2.1,x.2.2.1,x.2.2.2)))
instance n10n_bp0 (x:q4T):ParC (vgt x):=by unfold vgt;(try dsimp only);infer_instance
def vuv (a0:(List vaa))(a1:(List vaa))(k:Bool→Option Res):Option Res:=
 bif ((a0.length:Int) != (a1.length:Int))then
 k false
 else
 vaf vgt Fuel (a0,a1,false,0) (Sum.elim (fun z1=>
 k z1.2.2.1) (fun _=>
 k true))
def vk1:=shut vuv
theorem vx5:vk1=vuv:=vaz _
instance n10n_p (a0:(List vaa))(a1:(List vaa)):ParC (vk1 a0 a1):=by rw [vx5];unfold vuv;(try dsimp only);infer_instance
def vug (a0:(List vaa))(a1:(List vaa))(a2:Int)(k:Bool→Option Res):Option Res:=
 vmu a0 (1048576:Int) (fun y1=>
 bif (decide (y1<0))then
 k true
 else
 vmu a1 y1 (fun y2=>
 bif (decide (y2<0))then
 k true
 else
 vgw a0 (fun y3=>
 vgw a1 (fun y4=>
 vqw y3 y4 a2 (fun y5=>
 vgw a0 (fun y6=>
 vgw a1 (fun y7=>
 vpr y6 y7 a2 (fun y8=>
 bif (!(y8==y5))then
 k false
 else
 vgw a0 (fun y9=>
 vk1 y6 y9 (fun y10=>
 bif (!y10)then
 k false
 else
 vgw a1 (fun y11=>
 vk1 y7 y11 (fun y12=>
 bif (!y12)then
 k false
 else
 k true))))))))))))
def vtr:=shut vug
theorem vws:vtr=vug:=vaz _
instance n08n_p (a0:(List vaa))(a1:(List vaa))(a2:Int):ParC (vtr a0 a1 a2):=by rw [vws];unfold vug;(try dsimp only);exact⟨((n12n_p _ _).p.bind fun y1=>(vjp (vdu _) ((n12n_p _ _).p.bind fun y2=>(vjp (vdu _) ((n14n_p _).p.bind fun y3=>((n14n_p _).p.bind fun y4=>((n21n_p _ _ _).p.bind fun y5=>((n14n_p _).p.bind fun y6=>((n14n_p _).p.bind fun y7=>((n01n_p _ _ _).p.bind fun y8=>(vjp (vdu _) ((n14n_p _).p.bind fun y9=>((n10n_p _ _).p.bind fun y10=>(vjp (vdu _) ((n14n_p _).p.bind fun y11=>((n10n_p _ _).p.bind fun y12=>(vjp (vdu _) (vdu _))))))))))))))))))⟩
def v0q (args:List AV)(st:St)(k:K1):Option Res:=
 va0 [.agg [.str,.str,.bool,.i],.i] [] args st (fun p q=>vmw (p.1.1,(p.1.2.1,(p.1.2.2.1,p.1.2.2.2.1))) p.2.1 (fun(y:Int)=>k (.i y) []))
 (none)
def v0v (args:List AV)(st:St)(k:K1):Option Res:=
 va0 [.lst tVersion,.i] [] args st (fun p q=>vmu p.1 p.2.1 (fun(y:Int)=>k (.i y) []))
 (none)
def v0n (args:List AV)(st:St)(k:K1):Option Res:=
 va0 [.agg [.str,.str,.bool,.i]] [] args st (fun p q=>vnb (p.1.1,(p.1.2.1,(p.1.2.2.1,p.1.2.2.2.1))) (fun(y:q17T)=>k (.agg [.str y.1,.str y.2.1,.bool y.2.2.1,.i y.2.2.2]) []))
 (none)
def v0y (args:List AV)(st:St)(k:K1):Option Res:=
 va0 [.lst tVersion] [] args st (fun p q=>vgw p.1 (fun(y:(List vaa))=>k (.own 0) [.arr tVersion y]))
 (none)
def v0x (args:List AV)(st:St)(k:K1):Option Res:=
 va0 [] [] args st (fun p q=>vrh  (fun(y:(ByteArray×ByteArray))=>k (.agg [.str y.1,.str y.2]) []))
 (none)
def v1g (args:List AV)(st:St)(k:K1):Option Res:=
 va0 [.agg [.str,.str],.str] [] args st (fun p q=>vmr (p.1.1,p.1.2.1) p.2.1 (fun(y:Bool)=>k (.bool y) []))
 (none)
def v01 (args:List AV)(st:St)(k:K1):Option Res:=
 va0 [.lst tVersion,.agg [.str,.str]] [] args st (fun p q=>vq6 p.1 (p.2.1.1,p.2.1.2.1) (fun(y:(List ByteArray))=>k (.own 0) [.arr .str y]))
 (none)
def v0u (args:List AV)(st:St)(k:K1):Option Res:=
 va0 [.lst tVersion,.str,.i] [] args st (fun p q=>vm7 p.1 p.2.1 p.2.2.1 (fun(y:Int)=>k (.i y) []))
 (none)
def v02 (args:List AV)(st:St)(k:K1):Option Res:=
 va0 [.lst tVersion,.str,.i] [] args st (fun p q=>vq2 p.1 p.2.1 p.2.2.1 (fun(y:(ByteArray×Bool))=>k (.tup [.str y.1,.bool y.2]) []))
 (none)
def v1c (args:List AV)(st:St)(k:K1):Option Res:=
 va0 [.lst tVersion,.agg [.str,.str],.i] [] args st (fun p q=>vio p.1 (p.2.1.1,p.2.1.2.1) p.2.2.1 (fun(y:(List vam))=>k (.own 0) [.arr tRange y]))
 (none)
def v0w (args:List AV)(st:St)(k:K1):Option Res:=
 va0 [.lst tRange,.lst tRange] [] args st (fun p q=>vk9 p.1 p.2.1 (fun(y:Bool)=>k (.bool y) []))
 (none)
def v09 (args:List AV)(st:St)(k:K1):Option Res:=
 va0 [.lst tVersion,.lst tVersion,.i] [] args st (fun p q=>vqw p.1 p.2.1 p.2.2.1 (fun(y:Bool)=>k (.bool y) []))
 (none)
def vc7 (args:List AV)(st:St)(k:K1):Option Res:=
 va0 [.nilS,.i] [] args st (fun p q=>vmz p.2.1 (fun(y:(List vaa))=>k (.own 0) [.arr tVersion y]))
 (none)
def v1d (args:List AV)(st:St)(k:K1):Option Res:=
 va0 [.lst (.slice tVersion)] [] args st (fun p q=>vnq p.1 (fun(y:(List vaa))=>k (.own 0) [.arr tVersion y]))
 (none)
def v04 (args:List AV)(st:St)(k:K1):Option Res:=
 va0 [] [] args st (fun p q=>vmm  (fun(y:(ByteArray×ByteArray))=>k (.agg [.str y.1,.str y.2]) []))
 (none)
def vb3 (args:List AV)(st:St)(k:K1):Option Res:=
 va0 [.own 0] [.arr .str] args st (fun p q=>vnh q.1 (fun(y:(List ByteArray))=>k (.tup []) [.arr .str y]))
 (none)
def vcs (args:List AV)(st:St)(k:K1):Option Res:=
 va0 [.own 0] [.arr .str] args st (fun p q=>vl8 q.1 (Sum.elim (fun(y:(List ByteArray))=>k (.own 0) [.arr .str y]) (fun(y:(List ByteArray))=>k (.own 1) [.gone,.arr .str y])))
 (none)
def v0l (args:List AV)(st:St)(k:K1):Option Res:=
 va0 [.lst tVersion] [] args st (fun p q=>vny p.1 (fun(y:(List ByteArray))=>k (.own 0) [.arr .str y]))
 (none)
def v1f (args:List AV)(st:St)(k:K1):Option Res:=
 va0 [.lst tVersion,.str,.i] [] args st (fun p q=>vn2 p.1 p.2.1 p.2.2.1 (fun(y:Int)=>k (.i y) []))
 (none)
def v0t (args:List AV)(st:St)(k:K1):Option Res:=
 va0 [.lst tVersion,.str,.i] [] args st (fun p q=>vrf p.1 p.2.1 p.2.2.1 (fun(y:(ByteArray×Bool))=>k (.tup [.str y.1,.bool y.2]) []))
 (none)
def v0s (args:List AV)(st:St)(k:K1):Option Res:=
 va0 [.agg [.str,.str],.str] [] args st (fun p q=>vn0 (p.1.1,p.1.2.1) p.2.1 (fun(y:Bool)=>k (.bool y) []))
 (none)
def v1a (args:List AV)(st:St)(k:K1):Option Res:=
 va0 [.lst tVersion,.agg [.str,.str],.i] [] args st (fun p q=>vnp p.1 (p.2.1.1,p.2.1.2.1) p.2.2.1 (fun(y:(List vam))=>k (.own 0) [.arr tRange y]))
 (none)
def v00 (args:List AV)(st:St)(k:K1):Option Res:=
 va0 [.lst tRange,.lst tRange] [] args st (fun p q=>vm4 p.1 p.2.1 (fun(y:Bool)=>k (.bool y) []))
 (none)
def v05 (args:List AV)(st:St)(k:K1):Option Res:=
 va0 [.i,.bp 0 0,.bp 1 0] [.box [.lst tVersion],.box [.lst tVersion]] args st (fun p q=>vmt p.1 q.1.1 q.2.1.1 (fun(y:q16T)=>k (.bool y.1) [.box [.lst tVersion y.2.1],.box [.lst tVersion y.2.2]]))
 (none)
def v03 (args:List AV)(st:St)(k:K1):Option Res:=
 va0 [.lst tVersion,.lst tVersion,.i] [] args st (fun p q=>vpr p.1 p.2.1 p.2.2.1 (fun(y:Bool)=>k (.bool y) []))
 (none)
def v0m (args:List AV)(st:St)(k:K1):Option Res:=
 va0 [.agg [.str,.str,.bool,.i],.agg [.str,.str,.bool,.i]] [] args st (fun p q=>vno (p.1.1,(p.1.2.1,(p.1.2.2.1,p.1.2.2.2.1))) (p.2.1.1,(p.2.1.2.1,(p.2.1.2.2.1,p.2.1.2.2.2.1))) (fun(y:Bool)=>k (.bool y) []))
 (none)
def v08 (args:List AV)(st:St)(k:K1):Option Res:=
 va0 [.lst tVersion,.lst tVersion] [] args st (fun p q=>vk1 p.1 p.2.1 (fun(y:Bool)=>k (.bool y) []))
 (none)
def vxh (args:List AV)(st:St)(k:K1):Option Res:=
 va0 [.lst tVersion,.lst tVersion,.i] [] args st (fun p q=>vtr p.1 p.2.1 p.2.2.1 (fun(y:Bool)=>k (.bool y) []))
 (none)
end
end Go.VE
