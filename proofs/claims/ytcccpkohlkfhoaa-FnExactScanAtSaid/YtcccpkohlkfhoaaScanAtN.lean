/- Native programs of the functions, written by gen.py. -/
import Derived.Test.YtcccpkohlkfhoaaT0
import Derived.Test.YtcccpkohlkfhoaaU28
namespace Go.VE
noncomputable section
set_option linter.unusedVariables false
set_option linter.unusedSimpArgs false
set_option maxRecDepth 100000
abbrev q0T:Type:=((List vaf)×(List vaf)×Bool×Int)
abbrev q1T:Type:=((List vaf)×Int×Int×Int)
abbrev q2T:Type:=((List vaa)×(List vaa)×Bool×Int)
abbrev q3T:Type:=((List vaa)×ByteArray×Int×Int×(List vaa)×Int×Int)
abbrev q4T:Type:=((List vaa)×ByteArray×Int×Int×Int)
abbrev q5T:Type:=((List vaa)×Int×(List vaa))
abbrev q6T:Type:=((List vaa)×Int×Bool×ByteArray×ByteArray×(List vaf)×(List vaf))
abbrev q7T:Type:=((List vaa)×Int×ByteArray×ByteArray×(List ByteArray))
abbrev q8T:Type:=((List vaa)×Int×ByteArray×Int×ByteArray×ByteArray×(List ByteArray)×(List ByteArray))
abbrev q9T:Type:=((List vaa)×Int×Int×(List ByteArray))
abbrev q10T:Type:=((List vaa)×Int×Int×(List vaf)×(List ByteArray))
abbrev q11T:Type:=((List vaa)×Int×Int×Int×ByteArray×ByteArray×(List vaf)×(List ByteArray))
abbrev q12T:Type:=((List vaa)×Int×Int×Int)
abbrev q13T:Type:=(ByteArray×ByteArray×Bool×Int)
abbrev q14T:Type:=(Int×(List ByteArray)×(List ByteArray))
def vug (a0:vaa)(a1:Int)(k:Int→Option Res):Option Res:=
 bif (decide ((IntKind.wrap .i64 (a1-(a0.1.size:Int)))<(0:Int)))then
 k (-1:Int)
 else
 bif (decide ((IntKind.wrap .i64 ((IntKind.wrap .i64 (a1-(a0.1.size:Int)))-(a0.2.1.size:Int)))<(0:Int)))then
 k (-1:Int)
 else
 k (IntKind.wrap .i64 ((IntKind.wrap .i64 (a1-(a0.1.size:Int)))-(a0.2.1.size:Int)))
def vnp:=shut vug
theorem vx2:vnp=vug:=vaz _
instance n15n_p (a0:vaa)(a1:Int):ParC (vnp a0 a1):=by rw [vx2];unfold vug;(try dsimp only);infer_instance
def vf1 (x:q12T)(k:q12T⊕(q12T⊕q12T)→Option Res):Option Res:=
 bif (decide (x.2.2.2<(x.1.length:Int)))then
 if 0≤x.2.2.2∧x.2.2.2<(x.1.length:Int)then
 vnp (rd (Ty.zero tVersion) x.1 x.2.2.2) x.2.1 (fun y3=>
 bif (decide (y3<0))then
 k (.inr (.inl (x.1,y3,(-1:Int),x.2.2.2)))
 else
 k (.inl (x.1,y3,x.2.2.1,(IntKind.wrap .i64 (x.2.2.2+1)))))
 else none
 else
 k (.inr (.inr (x.1,x.2.1,x.2.2.1,x.2.2.2)))
instance n16n_bp0 (x:q12T):ParC (vf1 x):=by unfold vf1;(try dsimp only);infer_instance
def vt1 (a0:(List vaa))(a1:Int)(k:Int→Option Res):Option Res:=
 bif (decide ((IntKind.wrap .i64 (a1-(a0.length:Int)))<(0:Int)))then
 k (-1:Int)
 else
 vag vf1 Fuel (a0,(IntKind.wrap .i64 (a1-(a0.length:Int))),0,0) (Sum.elim (fun z1=>
 k z1.2.2.1) (fun z2=>
 k z2.2.1))
def vng:=shut vt1
theorem vwa:vng=vt1:=vaz _
instance n16n_p (a0:(List vaa))(a1:Int):ParC (vng a0 a1):=by rw [vwa];unfold vt1;(try dsimp only);infer_instance
def vum (a0:vaf)(a1:Int)(k:Int→Option Res):Option Res:=
 bif (decide ((IntKind.wrap .i64 (a1-(a0.1.size:Int)))<(0:Int)))then
 k (-1:Int)
 else
 bif (decide ((IntKind.wrap .i64 ((IntKind.wrap .i64 (a1-(a0.1.size:Int)))-(a0.2.size:Int)))<(0:Int)))then
 k (-1:Int)
 else
 k (IntKind.wrap .i64 ((IntKind.wrap .i64 (a1-(a0.1.size:Int)))-(a0.2.size:Int)))
def vnn:=shut vum
theorem vxo:vnn=vum:=vaz _
instance n14n_p (a0:vaf)(a1:Int):ParC (vnn a0 a1):=by rw [vxo];unfold vum;(try dsimp only);infer_instance
def vxg (a0:vaa)(k:q13T→Option Res):Option Res:=
 k (a0.1,a0.2.1,a0.2.2.1,a0.2.2.2)
def vn0:=shut vxg
theorem vv7:vn0=vxg:=vaz _
instance n18n_p (a0:vaa):ParC (vn0 a0):=by rw [vv7];unfold vxg;(try dsimp only);infer_instance
def vgv (x:q5T)(k:q5T⊕q5T→Option Res):Option Res:=
 bif (decide (x.2.1<(x.1.length:Int)))then
 if 0≤x.2.1∧x.2.1<(x.1.length:Int)then
 vn0 (rd (Ty.zero tVersion) x.1 x.2.1) (fun y2=>
 if 0≤x.2.1∧x.2.1<(x.2.2.length:Int)then
 k (.inl (x.1,(IntKind.wrap .i64 (x.2.1+1)),(x.2.2.set x.2.1.toNat y2)))
 else none)
 else none
 else
 k (.inr (x.1,x.2.1,x.2.2))
instance n19n_bp0 (x:q5T):ParC (vgv x):=by unfold vgv;(try dsimp only);infer_instance
def vuz (a0:(List vaa))(k:(List vaa)→Option Res):Option Res:=
 if 0≤(a0.length:Int)∧(a0.length:Int)≤(a0.length:Int)∧(a0.length:Int)≤(VE.maxLen:Int)then
 vag vgv Fuel (a0,0,(List.replicate (a0.length:Int).toNat (Ty.zero tVersion))) (fun z1=>
 k z1.2.2)
 else none
def ve1:=shut vuz
theorem vx7:ve1=vuz:=vaz _
instance n19n_p (a0:(List vaa)):ParC (ve1 a0):=by rw [vx7];unfold vuz;(try dsimp only);infer_instance
def vwc (a0:vaf)(k:(ByteArray×ByteArray)→Option Res):Option Res:=
 k (a0.1,a0.2)
def vhp:=shut vwc
theorem vwy:vhp=vwc:=vaz _
instance n17n_p (a0:vaf):ParC (vhp a0):=by rw [vwy];unfold vwc;(try dsimp only);infer_instance
def vty (a0:vaf)(a1:ByteArray)(k:Bool→Option Res):Option Res:=
 bif (!(vad a1 a0.1))then
 k ((vad a1 a0.2)||(va9 a1 a0.2))
 else
 k false
def vmv:=shut vty
theorem vv9:vmv=vty:=vaz _
instance n22n_p (a0:vaf)(a1:ByteArray):ParC (vmv a0 a1):=by rw [vv9];unfold vty;(try dsimp only);infer_instance
def vgt (x:q8T)(k:q8T⊕q8T→Option Res):Option Res:=
 bif (decide (x.2.2.2.1<(x.2.2.2.2.2.2.1.length:Int)))then
 if 0≤x.2.2.2.1∧x.2.2.2.1<(x.2.2.2.2.2.2.1.length:Int)then
 bif (vad (x.2.2.2.2.2.2.1.getD x.2.2.2.1.toNat (Ty.zero .str)) x.2.2.1)then
 if 0≤x.2.2.2.1∧x.2.2.2.1<(x.2.2.2.2.2.2.1.length:Int)then
 if x.2.2.2.2.2.2.2.length+[(x.2.2.2.2.2.2.1.getD x.2.2.2.1.toNat (Ty.zero .str))].length≤VE.maxLen then
 k (.inl (x.1,x.2.1,x.2.2.1,(IntKind.wrap .i64 (x.2.2.2.1+(1:Int))),x.2.2.2.2.1,x.2.2.2.2.2.1,x.2.2.2.2.2.2.1,(x.2.2.2.2.2.2.2++[(x.2.2.2.2.2.2.1.getD x.2.2.2.1.toNat (Ty.zero .str))])))
 else none
 else none
 else
 k (.inl (x.1,x.2.1,x.2.2.1,(IntKind.wrap .i64 (x.2.2.2.1+1)),x.2.2.2.2.1,x.2.2.2.2.2.1,x.2.2.2.2.2.2.1,x.2.2.2.2.2.2.2))
 else none
 else
 k (.inr (x.1,x.2.1,x.2.2.1,x.2.2.2.1,x.2.2.2.2.1,x.2.2.2.2.2.1,x.2.2.2.2.2.2.1,x.2.2.2.2.2.2.2))
instance n26n_bp2 (x:q8T):ParC (vgt x):=by unfold vgt;(try dsimp only);infer_instance
def vgu (x:q8T)(k:q8T⊕q8T→Option Res):Option Res:=
 bif (decide (x.2.2.2.1<(x.2.2.2.2.2.2.1.length:Int)))then
 if 0≤x.2.2.2.1∧x.2.2.2.1<(x.2.2.2.2.2.2.1.length:Int)then
 bif (!((vad (x.2.2.2.2.2.2.1.getD x.2.2.2.1.toNat (Ty.zero .str)) x.2.2.1)||(va9 (x.2.2.2.2.2.2.1.getD x.2.2.2.1.toNat (Ty.zero .str)) x.2.2.1)))then
 if 0≤x.2.2.2.1∧x.2.2.2.1<(x.2.2.2.2.2.2.1.length:Int)then
 if x.2.2.2.2.2.2.2.length+[(x.2.2.2.2.2.2.1.getD x.2.2.2.1.toNat (Ty.zero .str))].length≤VE.maxLen then
 k (.inl (x.1,x.2.1,x.2.2.1,(IntKind.wrap .i64 (x.2.2.2.1+(1:Int))),x.2.2.2.2.1,x.2.2.2.2.2.1,x.2.2.2.2.2.2.1,(x.2.2.2.2.2.2.2++[(x.2.2.2.2.2.2.1.getD x.2.2.2.1.toNat (Ty.zero .str))])))
 else none
 else none
 else
 k (.inl (x.1,x.2.1,x.2.2.1,(IntKind.wrap .i64 (x.2.2.2.1+1)),x.2.2.2.2.1,x.2.2.2.2.2.1,x.2.2.2.2.2.2.1,x.2.2.2.2.2.2.2))
 else none
 else
 k (.inr (x.1,x.2.1,x.2.2.1,x.2.2.2.1,x.2.2.2.2.1,x.2.2.2.2.2.1,x.2.2.2.2.2.2.1,x.2.2.2.2.2.2.2))
instance n26n_bp4 (x:q8T):ParC (vgu x):=by unfold vgu;(try dsimp only);infer_instance
def vgw (x:q7T)(k:q7T⊕q7T→Option Res):Option Res:=
 bif (decide (x.2.1<(x.1.length:Int)))then
 if 0≤x.2.1∧x.2.1<(x.1.length:Int)then
 vmv (x.2.2.1,x.2.2.2.1) ((rd (Ty.zero tVersion) x.1 x.2.1).1) (fun y2=>
 bif (!y2)then
 k (.inl (x.1,(IntKind.wrap .i64 (x.2.1+1)),x.2.2.1,x.2.2.2.1,x.2.2.2.2))
 else
 vag vgt Fuel (x.1,x.2.1,(rd (Ty.zero tVersion) x.1 x.2.1).1,0,x.2.2.1,x.2.2.2.1,x.2.2.2.2,([]:List ByteArray)) (fun z3=>
 if z3.2.2.2.2.2.2.2.length+[z3.2.2.1].length≤VE.maxLen then
 vag vgu Fuel (z3.1,z3.2.1,z3.2.2.1,0,z3.2.2.2.2.1,z3.2.2.2.2.2.1,z3.2.2.2.2.2.2.1,(z3.2.2.2.2.2.2.2++[z3.2.2.1])) (fun z4=>
 k (.inl (z4.1,(IntKind.wrap .i64 (z4.2.1+1)),z4.2.2.2.2.1,z4.2.2.2.2.2.1,z4.2.2.2.2.2.2.2)))
 else none))
 else none
 else
 k (.inr (x.1,x.2.1,x.2.2.1,x.2.2.2.1,x.2.2.2.2))
instance n26n_bp0 (x:q7T):ParC (vgw x):=by unfold vgw;(try dsimp only);infer_instance
def vtn (a0:(List vaa))(a1:vaf)(k:(List ByteArray)→Option Res):Option Res:=
 vag vgw Fuel (a0,0,a1.1,a1.2,([]:List ByteArray)) (fun z1=>
 k z1.2.2.2.2)
def vql:=shut vtn
theorem vv5:vql=vtn:=vaz _
instance n26n_p (a0:(List vaa))(a1:vaf):ParC (vql a0 a1):=by rw [vv5];unfold vtn;(try dsimp only);infer_instance
def vgs (x:q4T)(k:q4T⊕q4T→Option Res):Option Res:=
 let t0:=(IntKind.wrap .i64 (x.2.2.2.2+(1:Int)))
 bif (decide (x.2.2.2.2<(x.1.length:Int)))then
 if 0≤x.2.2.2.2∧x.2.2.2.2<(x.1.length:Int)then
 bif (va9 ((rd (Ty.zero tVersion) x.1 x.2.2.2.2).1) x.2.1)then
 if 0≤x.2.2.2.2∧x.2.2.2.2<(x.1.length:Int)then
 bif (decide ((rd (Ty.zero tVersion) x.1 x.2.2.2.2).2.2.2≤x.2.2.1))then
 bif (decide (x.2.2.2.1<0))then
 k (.inl (x.1,x.2.1,x.2.2.1,x.2.2.2.2,t0))
 else
 if 0≤x.2.2.2.2∧x.2.2.2.2<(x.1.length:Int)then
 if 0≤x.2.2.2.1∧x.2.2.2.1<(x.1.length:Int)then
 bif (decide ((rd (Ty.zero tVersion) x.1 x.2.2.2.2).2.2.2>(rd (Ty.zero tVersion) x.1 x.2.2.2.1).2.2.2))then
 k (.inl (x.1,x.2.1,x.2.2.1,x.2.2.2.2,t0))
 else
 k (.inl (x.1,x.2.1,x.2.2.1,x.2.2.2.1,t0))
 else none
 else none
 else
 k (.inl (x.1,x.2.1,x.2.2.1,x.2.2.2.1,t0))
 else none
 else
 k (.inl (x.1,x.2.1,x.2.2.1,x.2.2.2.1,t0))
 else none
 else
 k (.inr (x.1,x.2.1,x.2.2.1,x.2.2.2.1,x.2.2.2.2))
instance n25n_bp0 (x:q4T):ParC (vgs x):=by unfold vgs;(try dsimp only);infer_instance
def vtm (a0:(List vaa))(a1:ByteArray)(a2:Int)(k:Int→Option Res):Option Res:=
 vag vgs Fuel (a0,a1,a2,(-1:Int),0) (fun z1=>
 k z1.2.2.2.1)
def vm4:=shut vtm
theorem vx8:vm4=vtm:=vaz _
instance n25n_p (a0:(List vaa))(a1:ByteArray)(a2:Int):ParC (vm4 a0 a1 a2):=by rw [vx8];unfold vtm;(try dsimp only);infer_instance
def vut (a0:(List vaa))(a1:ByteArray)(a2:Int)(k:(ByteArray×Bool)→Option Res):Option Res:=
 vm4 a0 a1 a2 (fun y1=>
 bif (decide (y1<0))then
 k ((⟨#[]⟩:ByteArray),false)
 else
 if 0≤y1∧y1<(a0.length:Int)then
 bif (rd (Ty.zero tVersion) a0 y1).2.2.1 then
 k ((⟨#[]⟩:ByteArray),false)
 else
 if 0≤y1∧y1<(a0.length:Int)then
 k ((rd (Ty.zero tVersion) a0 y1).2.1,true)
 else none
 else none)
def vq0:=shut vut
theorem vwi:vq0=vut:=vaz _
instance n24n_p (a0:(List vaa))(a1:ByteArray)(a2:Int):ParC (vq0 a0 a1 a2):=by rw [vwi];unfold vut;(try dsimp only);infer_instance
def vfy (x:q10T)(k:q10T⊕q10T→Option Res):Option Res:=
 bif (decide (x.2.2.1<(x.2.2.2.2.length:Int)))then
 if 0≤x.2.2.1∧x.2.2.1<(x.2.2.2.2.length:Int)then
 vq0 x.1 (x.2.2.2.2.getD x.2.2.1.toNat (Ty.zero .str)) x.2.1 (fun y3=>
 bif y3.2 then
 if 0≤x.2.2.1∧x.2.2.1<(x.2.2.2.2.length:Int)then
 if x.2.2.2.1.length+[((x.2.2.2.2.getD x.2.2.1.toNat (Ty.zero .str)),y3.1)].length≤VE.maxLen then
 k (.inl (x.1,x.2.1,(IntKind.wrap .i64 (x.2.2.1+(1:Int))),(x.2.2.2.1++[((x.2.2.2.2.getD x.2.2.1.toNat (Ty.zero .str)),y3.1)]),x.2.2.2.2))
 else none
 else none
 else
 k (.inl (x.1,x.2.1,(IntKind.wrap .i64 (x.2.2.1+1)),x.2.2.2.1,x.2.2.2.2)))
 else none
 else
 k (.inr (x.1,x.2.1,x.2.2.1,x.2.2.2.1,x.2.2.2.2))
instance n23n_bp0 (x:q10T):ParC (vfy x):=by unfold vfy;(try dsimp only);infer_instance
def vtv (a0:(List vaa))(a1:vaf)(a2:Int)(k:(List vaf)→Option Res):Option Res:=
 vql a0 a1 (fun y1=>
 vag vfy Fuel (a0,a2,0,([]:List vaf),y1) (fun z2=>
 k z2.2.2.2.1))
def vm3:=shut vtv
theorem vwu:vm3=vtv:=vaz _
instance n23n_p (a0:(List vaa))(a1:vaf)(a2:Int):ParC (vm3 a0 a1 a2):=by rw [vwu];unfold vtv;(try dsimp only);infer_instance
def vpp (a0:(List ByteArray))(k:(List ByteArray)→Option Res):Option Res:=
 if a0.length≤1000000000 then
 k (vfm a0)
 else none
def vmo:=shut vpp
theorem vwl:vmo=vpp:=vaz _
instance n21n_p (a0:(List ByteArray)):ParC (vmo a0):=by rw [vwl];unfold vpp;(try dsimp only);infer_instance
def vfc (x:(Int×Nat×Int×(List ByteArray)))(k:(Int×Nat×Int×(List ByteArray))⊕(Int×Nat×Int×(List ByteArray))→Option Res):Option Res:=
 bif (decide (x.2.2.1<((x.2.2.2.length:Int)-((x.2.1:Nat):Int))))then
 if 0≤x.2.2.1∧x.2.2.1<(x.2.2.2.length:Int)-((x.2.1:Nat):Int)then
 if 0≤(IntKind.wrap .i64 (x.2.2.1-1))∧(IntKind.wrap .i64 (x.2.2.1-1))<(x.2.2.2.length:Int)-((x.2.1:Nat):Int)then
 bif (!(va9 (x.2.2.2.getD (x.2.1+x.2.2.1.toNat) (Ty.zero .str)) (x.2.2.2.getD (x.2.1+(IntKind.wrap .i64 (x.2.2.1-1)).toNat) (Ty.zero .str))))then
 if 0≤x.2.2.1∧x.2.2.1<(x.2.2.2.length:Int)-((x.2.1:Nat):Int)then
 if 0≤x.1∧x.1<(x.2.2.2.length:Int)then
 k (.inl ((IntKind.wrap .i64 (x.1+1)),x.2.1,(IntKind.wrap .i64 (x.2.2.1+1)),(x.2.2.2.set x.1.toNat (x.2.2.2.getD (x.2.1+x.2.2.1.toNat) (Ty.zero .str)))))
 else none
 else none
 else
 k (.inl (x.1,x.2.1,(IntKind.wrap .i64 (x.2.2.1+1)),x.2.2.2))
 else none
 else none
 else
 k (.inr (x.1,x.2.1,x.2.2.1,x.2.2.2))
instance n20n_bp2 (x:(Int×Nat×Int×(List ByteArray))):ParC (vfc x):=by unfold vfc;(try dsimp only);infer_instance
def vek (x:q14T)(k:q14T⊕(q14T⊕(Int×(List ByteArray)))→Option Res):Option Res:=
 bif (decide (x.1<(x.2.1.length:Int)))then
 if 0≤x.1∧x.1<(x.2.1.length:Int)then
 if 0≤(IntKind.wrap .i64 (x.1-1))∧(IntKind.wrap .i64 (x.1-1))<(x.2.1.length:Int)then
 bif (va9 (x.2.1.getD x.1.toNat (Ty.zero .str)) (x.2.1.getD (IntKind.wrap .i64 (x.1-1)).toNat (Ty.zero .str)))then
 if 0≤x.1∧x.1≤(x.2.1.length:Int)then
 vag vfc Fuel (x.1,x.1.toNat,1,x.2.1) (fun z3=>
 if 0≤z3.1∧z3.1≤(z3.2.2.2.length:Int)then
 if 0≤z3.1∧z3.1≤((z3.2.2.2.take z3.1.toNat++List.replicate (z3.2.2.2.length-z3.1.toNat) (Ty.zero .str)).length:Int)then
 k (.inr (.inr (z3.1,((z3.2.2.2.take z3.1.toNat++List.replicate (z3.2.2.2.length-z3.1.toNat) (Ty.zero .str)).take z3.1.toNat))))
 else none
 else none)
 else none
 else
 k (.inl ((IntKind.wrap .i64 (x.1+1)),x.2.1,x.2.2))
 else none
 else none
 else
 k (.inr (.inl (x.1,x.2.1,x.2.2)))
instance n20n_bp0 (x:q14T):ParC (vek x):=by unfold vek;(try dsimp only);infer_instance
def vub (a0:(List ByteArray))(k:((List ByteArray)⊕(List ByteArray))→Option Res):Option Res:=
 bif (decide ((a0.length:Int)<(2:Int)))then
 k (.inl a0)
 else
 vag vek Fuel (1,a0,([]:List ByteArray)) (Sum.elim (fun z1=>
 k (.inl z1.2.1)) (fun z2=>
 k (.inr z2.2)))
def vlt:=shut vub
theorem vwd:vlt=vub:=vaz _
instance n20n_p (a0:(List ByteArray)):ParC (vlt a0):=by rw [vwd];unfold vub;(try dsimp only);infer_instance
def vgx (x:q9T)(k:q9T⊕q9T→Option Res):Option Res:=
 bif (decide (x.2.2.1<x.2.1))then
 if 0≤x.2.2.1∧x.2.2.1<(x.1.length:Int)then
 if x.2.2.2.length+[(rd (Ty.zero tVersion) x.1 x.2.2.1).1].length≤VE.maxLen then
 k (.inl (x.1,x.2.1,(IntKind.wrap .i64 (x.2.2.1+(1:Int))),(x.2.2.2++[(rd (Ty.zero tVersion) x.1 x.2.2.1).1])))
 else none
 else none
 else
 k (.inr (x.1,x.2.1,x.2.2.1,x.2.2.2))
instance n03n_bp0 (x:q9T):ParC (vgx x):=by unfold vgx;(try dsimp only);infer_instance
def vt3 (a0:(List vaa))(k:(List ByteArray)→Option Res):Option Res:=
 vag vgx Fuel (a0,(a0.length:Int),0,([]:List ByteArray)) (fun z1=>
 vmo z1.2.2.2 (fun y2=>
 vlt y2 (Sum.elim (fun y3=>
 k y3) (fun y4=>
 k y4))))
def vnb:=shut vt3
theorem vx0:vnb=vt3:=vaz _
instance n03n_p (a0:(List vaa)):ParC (vnb a0):=by rw [vx0];unfold vt3;(try dsimp only);infer_instance
def vgb (x:q3T)(k:q3T⊕q3T→Option Res):Option Res:=
 let t0:=(x.1,x.2.1,x.2.2.1,x.2.2.2.1,x.2.2.2.2.1,x.2.2.2.2.2.1,(IntKind.wrap .i64 (x.2.2.2.2.2.2+(1:Int))))
 bif (decide (x.2.2.2.2.2.2<x.2.2.2.2.2.1))then
 if 0≤x.2.2.2.2.2.2∧x.2.2.2.2.2.2<(x.2.2.2.2.1.length:Int)then
 bif (va9 ((rd (Ty.zero tVersion) x.2.2.2.2.1 x.2.2.2.2.2.2).1) x.2.1)then
 bif (decide ((rd (Ty.zero tVersion) x.2.2.2.2.1 x.2.2.2.2.2.2).2.2.2≤x.2.2.1))then
 bif (decide (x.2.2.2.1<0))then
 k (.inl (x.1,x.2.1,x.2.2.1,x.2.2.2.2.2.2,x.2.2.2.2.1,x.2.2.2.2.2.1,(IntKind.wrap .i64 (x.2.2.2.2.2.2+1))))
 else
 if 0≤x.2.2.2.1∧x.2.2.2.1<(x.1.length:Int)then
 bif (decide ((rd (Ty.zero tVersion) x.2.2.2.2.1 x.2.2.2.2.2.2).2.2.2>(rd (Ty.zero tVersion) x.1 x.2.2.2.1).2.2.2))then
 k (.inl (x.1,x.2.1,x.2.2.1,x.2.2.2.2.2.2,x.2.2.2.2.1,x.2.2.2.2.2.1,(IntKind.wrap .i64 (x.2.2.2.2.2.2+1))))
 else
 k (.inl t0)
 else none
 else
 k (.inl t0)
 else
 k (.inl t0)
 else none
 else
 k (.inr (x.1,x.2.1,x.2.2.1,x.2.2.2.1,x.2.2.2.2.1,x.2.2.2.2.2.1,x.2.2.2.2.2.2))
instance n04n_bp0 (x:q3T):ParC (vgb x):=by unfold vgb;(try dsimp only);infer_instance
def vtl (a0:(List vaa))(a1:ByteArray)(a2:Int)(k:Int→Option Res):Option Res:=
 vag vgb Fuel (a0,a1,a2,(-1:Int),a0,(a0.length:Int),0) (fun z1=>
 k z1.2.2.2.1)
def vmw:=shut vtl
theorem vx3:vmw=vtl:=vaz _
instance n04n_p (a0:(List vaa))(a1:ByteArray)(a2:Int):ParC (vmw a0 a1 a2):=by rw [vx3];unfold vtl;(try dsimp only);infer_instance
def vtp (a0:(List vaa))(a1:ByteArray)(a2:Int)(k:(ByteArray×Bool)→Option Res):Option Res:=
 vmw a0 a1 a2 (fun y1=>
 bif (decide (y1<0))then
 k ((⟨#[]⟩:ByteArray),false)
 else
 if 0≤y1∧y1<(a0.length:Int)then
 bif (rd (Ty.zero tVersion) a0 y1).2.2.1 then
 k ((⟨#[]⟩:ByteArray),false)
 else
 if 0≤y1∧y1<(a0.length:Int)then
 k ((rd (Ty.zero tVersion) a0 y1).2.1,true)
 else none
 else none)
def vp0:=shut vtp
theorem vyg:vp0=vtp:=vaz _
instance n02n_p (a0:(List vaa))(a1:ByteArray)(a2:Int):ParC (vp0 a0 a1 a2):=by rw [vyg];unfold vtp;(try dsimp only);infer_instance
def vuu (a0:vaf)(a1:ByteArray)(k:Bool→Option Res):Option Res:=
 bif (!(vad a1 a0.1))then
 k ((vad a1 a0.2)||(va9 a1 a0.2))
 else
 k false
def vnj:=shut vuu
theorem vyc:vnj=vuu:=vaz _
instance n00n_p (a0:vaf)(a1:ByteArray):ParC (vnj a0 a1):=by rw [vyc];unfold vuu;(try dsimp only);infer_instance
def vfn (x:q11T)(k:q11T⊕q11T→Option Res):Option Res:=
 let t0:=(x.2.2.2.2.2.2.2.getD x.2.2.2.1.toNat (Ty.zero .str))
 bif (decide (x.2.2.2.1<x.2.2.1))then
 if 0≤x.2.2.2.1∧x.2.2.2.1<(x.2.2.2.2.2.2.2.length:Int)then
 vp0 x.1 t0 x.2.1 (fun y3=>
 bif y3.2 then
 vnj (x.2.2.2.2.1,x.2.2.2.2.2.1) t0 (fun y4=>
 bif y4 then
 if x.2.2.2.2.2.2.1.length+[(t0,y3.1)].length≤VE.maxLen then
 k (.inl (x.1,x.2.1,x.2.2.1,(IntKind.wrap .i64 (x.2.2.2.1+(1:Int))),x.2.2.2.2.1,x.2.2.2.2.2.1,(x.2.2.2.2.2.2.1++[(t0,y3.1)]),x.2.2.2.2.2.2.2))
 else none
 else
 k (.inl (x.1,x.2.1,x.2.2.1,(IntKind.wrap .i64 (x.2.2.2.1+1)),x.2.2.2.2.1,x.2.2.2.2.2.1,x.2.2.2.2.2.2.1,x.2.2.2.2.2.2.2)))
 else
 k (.inl (x.1,x.2.1,x.2.2.1,(IntKind.wrap .i64 (x.2.2.2.1+1)),x.2.2.2.2.1,x.2.2.2.2.2.1,x.2.2.2.2.2.2.1,x.2.2.2.2.2.2.2)))
 else none
 else
 k (.inr (x.1,x.2.1,x.2.2.1,x.2.2.2.1,x.2.2.2.2.1,x.2.2.2.2.2.1,x.2.2.2.2.2.2.1,x.2.2.2.2.2.2.2))
instance n01n_bp0 (x:q11T):ParC (vfn x):=by unfold vfn;(try dsimp only);infer_instance
def vt2 (a0:(List vaa))(a1:vaf)(a2:Int)(k:(List vaf)→Option Res):Option Res:=
 vnb a0 (fun y1=>
 vag vfn Fuel (a0,a2,(y1.length:Int),0,a1.1,a1.2,([]:List vaf),y1) (fun z2=>
 k z2.2.2.2.2.2.2.1))
def vju:=shut vt2
theorem vwk:vju=vt2:=vaz _
instance n01n_p (a0:(List vaa))(a1:vaf)(a2:Int):ParC (vju a0 a1 a2):=by rw [vwk];unfold vt2;(try dsimp only);infer_instance
def vt7 (a0:vaf)(a1:vaf)(k:Bool→Option Res):Option Res:=
 bif (!(va9 a0.1 a1.1))then
 k false
 else
 bif (!(va9 a0.2 a1.2))then
 k false
 else
 k true
def vno:=shut vt7
theorem vw4:vno=vt7:=vaz _
instance n06n_p (a0:vaf)(a1:vaf):ParC (vno a0 a1):=by rw [vw4];unfold vt7;(try dsimp only);infer_instance
def vgi (x:q0T)(k:q0T⊕(q0T⊕q0T)→Option Res):Option Res:=
 bif (decide (x.2.2.2<(x.1.length:Int)))then
 if 0≤x.2.2.2∧x.2.2.2<(x.1.length:Int)then
 if 0≤x.2.2.2∧x.2.2.2<(x.2.1.length:Int)then
 vno (rd (Ty.zero tRange) x.1 x.2.2.2) (rd (Ty.zero tRange) x.2.1 x.2.2.2) (fun y3=>
 bif (!y3)then
 k (.inr (.inl (x.1,x.2.1,false,x.2.2.2)))
 else
 k (.inl (x.1,x.2.1,x.2.2.1,(IntKind.wrap .i64 (x.2.2.2+1)))))
 else none
 else none
 else
 k (.inr (.inr (x.1,x.2.1,x.2.2.1,x.2.2.2)))
instance n07n_bp0 (x:q0T):ParC (vgi x):=by unfold vgi;(try dsimp only);infer_instance
def vul (a0:(List vaf))(a1:(List vaf))(k:Bool→Option Res):Option Res:=
 bif ((a0.length:Int) != (a1.length:Int))then
 k false
 else
 vag vgi Fuel (a0,a1,false,0) (Sum.elim (fun z1=>
 k z1.2.2.1) (fun _=>
 k true))
def vf8:=shut vul
theorem vyl:vf8=vul:=vaz _
instance n07n_p (a0:(List vaf))(a1:(List vaf)):ParC (vf8 a0 a1):=by rw [vyl];unfold vul;(try dsimp only);infer_instance
def vui (a0:vaa)(a1:vaa)(k:Bool→Option Res):Option Res:=
 bif (!(va9 a0.1 a1.1))then
 k false
 else
 bif (!(va9 a0.2.1 a1.2.1))then
 k false
 else
 bif (!(a0.2.2.1==a1.2.2.1))then
 k false
 else
 bif (a0.2.2.2 != a1.2.2.2)then
 k false
 else
 k true
def vmr:=shut vui
theorem vxn:vmr=vui:=vaz _
instance n08n_p (a0:vaa)(a1:vaa):ParC (vmr a0 a1):=by rw [vxn];unfold vui;(try dsimp only);infer_instance
def vgr (x:q2T)(k:q2T⊕(q2T⊕q2T)→Option Res):Option Res:=
 bif (decide (x.2.2.2<(x.1.length:Int)))then
 if 0≤x.2.2.2∧x.2.2.2<(x.1.length:Int)then
 if 0≤x.2.2.2∧x.2.2.2<(x.2.1.length:Int)then
 vmr (rd (Ty.zero tVersion) x.1 x.2.2.2) (rd (Ty.zero tVersion) x.2.1 x.2.2.2) (fun y3=>
 bif (!y3)then
 k (.inr (.inl (x.1,x.2.1,false,x.2.2.2)))
 else
 k (.inl (x.1,x.2.1,x.2.2.1,(IntKind.wrap .i64 (x.2.2.2+1)))))
 else none
 else none
 else
 k (.inr (.inr (x.1,x.2.1,x.2.2.1,x.2.2.2)))
instance n09n_bp0 (x:q2T):ParC (vgr x):=by unfold vgr;(try dsimp only);infer_instance
def vuy (a0:(List vaa))(a1:(List vaa))(k:Bool→Option Res):Option Res:=
 bif ((a0.length:Int) != (a1.length:Int))then
 k false
 else
 vag vgr Fuel (a0,a1,false,0) (Sum.elim (fun z1=>
 k z1.2.2.1) (fun _=>
 k true))
def vln:=shut vuy
theorem vwm:vln=vuy:=vaz _
instance n09n_p (a0:(List vaa))(a1:(List vaa)):ParC (vln a0 a1):=by rw [vwm];unfold vuy;(try dsimp only);infer_instance
def vid (x:(Int×ByteArray))(k:(Int×ByteArray)⊕(Int×ByteArray)→Option Res):Option Res:=
 bif (decide (x.1>0))then
 if(vhu [(IntKind.wrap .u8 (IntKind.wrap .i64 ((48:Int)+(x.1.tmod (10:Int)))))]).size+x.2.size≤1099511627776 then
 k (.inl ((IntKind.wrap .i64 (x.1.tdiv (10:Int))),((vhu [(IntKind.wrap .u8 (IntKind.wrap .i64 ((48:Int)+(x.1.tmod (10:Int)))))])++x.2)))
 else none
 else
 k (.inr (x.1,x.2))
instance n12n_bp0 (x:(Int×ByteArray)):ParC (vid x):=by unfold vid;(try dsimp only);infer_instance
def vuv (a0:Int)(k:ByteArray→Option Res):Option Res:=
 bif (decide (a0≤0))then
 k (⟨#[109,48]⟩:ByteArray)
 else
 vag vid Fuel (a0,(⟨#[]⟩:ByteArray)) (fun z1=>
 if(⟨#[109]⟩:ByteArray).size+z1.2.size≤1099511627776 then
 k ((⟨#[109]⟩:ByteArray)++z1.2)
 else none)
def vdz:=shut vuv
theorem vxv:vdz=vuv:=vaz _
instance n12n_p (a0:Int):ParC (vdz a0):=by rw [vxv];unfold vuv;(try dsimp only);infer_instance
def vgp (x:(Int×Int×(List vaa)))(k:(Int×Int×(List vaa))⊕(Int×Int×(List vaa))→Option Res):Option Res:=
 let t0:=(x.2.2.getD x.2.1.toNat (Ty.zero tVersion))
 let t1:=(IntKind.wrap .i64 ((IntKind.wrap .i64 (x.1+(1:Int)))+(1:Int)))
 let t2:=((t1.tmod (3:Int))==(0:Int))
 bif (decide (x.2.1<(x.2.2.length:Int)))then
 vdz x.1 (fun y2=>
 if 0≤x.2.1∧x.2.1<(x.2.2.length:Int)then
 vdz (IntKind.wrap .i64 (x.1+1)) (fun y3=>
 if 0≤x.2.1∧x.2.1<((x.2.2.set x.2.1.toNat (y2,t0.2)).length:Int)then
 if 0≤x.2.1∧x.2.1<(((x.2.2.set x.2.1.toNat (y2,t0.2)).set x.2.1.toNat (((x.2.2.set x.2.1.toNat (y2,t0.2)).getD x.2.1.toNat (Ty.zero tVersion)).1,(y3,((x.2.2.set x.2.1.toNat (y2,t0.2)).getD x.2.1.toNat (Ty.zero tVersion)).2.2))).length:Int)then
 if 0≤x.2.1∧x.2.1<((((x.2.2.set x.2.1.toNat (y2,t0.2)).set x.2.1.toNat (((x.2.2.set x.2.1.toNat (y2,t0.2)).getD x.2.1.toNat (Ty.zero tVersion)).1,(y3,((x.2.2.set x.2.1.toNat (y2,t0.2)).getD x.2.1.toNat (Ty.zero tVersion)).2.2))).set x.2.1.toNat ((((x.2.2.set x.2.1.toNat (y2,t0.2)).set x.2.1.toNat (((x.2.2.set x.2.1.toNat (y2,t0.2)).getD x.2.1.toNat (Ty.zero tVersion)).1,(y3,((x.2.2.set x.2.1.toNat (y2,t0.2)).getD x.2.1.toNat (Ty.zero tVersion)).2.2))).getD x.2.1.toNat (Ty.zero tVersion)).1,((((x.2.2.set x.2.1.toNat (y2,t0.2)).set x.2.1.toNat (((x.2.2.set x.2.1.toNat (y2,t0.2)).getD x.2.1.toNat (Ty.zero tVersion)).1,(y3,((x.2.2.set x.2.1.toNat (y2,t0.2)).getD x.2.1.toNat (Ty.zero tVersion)).2.2))).getD x.2.1.toNat (Ty.zero tVersion)).2.1,(t2,(((x.2.2.set x.2.1.toNat (y2,t0.2)).set x.2.1.toNat (((x.2.2.set x.2.1.toNat (y2,t0.2)).getD x.2.1.toNat (Ty.zero tVersion)).1,(y3,((x.2.2.set x.2.1.toNat (y2,t0.2)).getD x.2.1.toNat (Ty.zero tVersion)).2.2))).getD x.2.1.toNat (Ty.zero tVersion)).2.2.2)))).length:Int)then
 k (.inl ((IntKind.wrap .i64 ((IntKind.wrap .i64 (t1+1))+1)),(IntKind.wrap .i64 (x.2.1+1)),((((x.2.2.set x.2.1.toNat (y2,t0.2)).set x.2.1.toNat (((x.2.2.set x.2.1.toNat (y2,t0.2)).getD x.2.1.toNat (Ty.zero tVersion)).1,(y3,((x.2.2.set x.2.1.toNat (y2,t0.2)).getD x.2.1.toNat (Ty.zero tVersion)).2.2))).set x.2.1.toNat ((((x.2.2.set x.2.1.toNat (y2,t0.2)).set x.2.1.toNat (((x.2.2.set x.2.1.toNat (y2,t0.2)).getD x.2.1.toNat (Ty.zero tVersion)).1,(y3,((x.2.2.set x.2.1.toNat (y2,t0.2)).getD x.2.1.toNat (Ty.zero tVersion)).2.2))).getD x.2.1.toNat (Ty.zero tVersion)).1,((((x.2.2.set x.2.1.toNat (y2,t0.2)).set x.2.1.toNat (((x.2.2.set x.2.1.toNat (y2,t0.2)).getD x.2.1.toNat (Ty.zero tVersion)).1,(y3,((x.2.2.set x.2.1.toNat (y2,t0.2)).getD x.2.1.toNat (Ty.zero tVersion)).2.2))).getD x.2.1.toNat (Ty.zero tVersion)).2.1,(t2,(((x.2.2.set x.2.1.toNat (y2,t0.2)).set x.2.1.toNat (((x.2.2.set x.2.1.toNat (y2,t0.2)).getD x.2.1.toNat (Ty.zero tVersion)).1,(y3,((x.2.2.set x.2.1.toNat (y2,t0.2)).getD x.2.1.toNat (Ty.zero tVersion)).2.2))).getD x.2.1.toNat (Ty.zero tVersion)).2.2.2)))).set x.2.1.toNat (((((x.2.2.set x.2.1.toNat (y2,t0.2)).set x.2.1.toNat (((x.2.2.set x.2.1.toNat (y2,t0.2)).getD x.2.1.toNat (Ty.zero tVersion)).1,(y3,((x.2.2.set x.2.1.toNat (y2,t0.2)).getD x.2.1.toNat (Ty.zero tVersion)).2.2))).set x.2.1.toNat ((((x.2.2.set x.2.1.toNat (y2,t0.2)).set x.2.1.toNat (((x.2.2.set x.2.1.toNat (y2,t0.2)).getD x.2.1.toNat (Ty.zero tVersion)).1,(y3,((x.2.2.set x.2.1.toNat (y2,t0.2)).getD x.2.1.toNat (Ty.zero tVersion)).2.2))).getD x.2.1.toNat (Ty.zero tVersion)).1,((((x.2.2.set x.2.1.toNat (y2,t0.2)).set x.2.1.toNat (((x.2.2.set x.2.1.toNat (y2,t0.2)).getD x.2.1.toNat (Ty.zero tVersion)).1,(y3,((x.2.2.set x.2.1.toNat (y2,t0.2)).getD x.2.1.toNat (Ty.zero tVersion)).2.2))).getD x.2.1.toNat (Ty.zero tVersion)).2.1,(t2,(((x.2.2.set x.2.1.toNat (y2,t0.2)).set x.2.1.toNat (((x.2.2.set x.2.1.toNat (y2,t0.2)).getD x.2.1.toNat (Ty.zero tVersion)).1,(y3,((x.2.2.set x.2.1.toNat (y2,t0.2)).getD x.2.1.toNat (Ty.zero tVersion)).2.2))).getD x.2.1.toNat (Ty.zero tVersion)).2.2.2)))).getD x.2.1.toNat (Ty.zero tVersion)).1,(((((x.2.2.set x.2.1.toNat (y2,t0.2)).set x.2.1.toNat (((x.2.2.set x.2.1.toNat (y2,t0.2)).getD x.2.1.toNat (Ty.zero tVersion)).1,(y3,((x.2.2.set x.2.1.toNat (y2,t0.2)).getD x.2.1.toNat (Ty.zero tVersion)).2.2))).set x.2.1.toNat ((((x.2.2.set x.2.1.toNat (y2,t0.2)).set x.2.1.toNat (((x.2.2.set x.2.1.toNat (y2,t0.2)).getD x.2.1.toNat (Ty.zero tVersion)).1,(y3,((x.2.2.set x.2.1.toNat (y2,t0.2)).getD x.2.1.toNat (Ty.zero tVersion)).2.2))).getD x.2.1.toNat (Ty.zero tVersion)).1,((((x.2.2.set x.2.1.toNat (y2,t0.2)).set x.2.1.toNat (((x.2.2.set x.2.1.toNat (y2,t0.2)).getD x.2.1.toNat (Ty.zero tVersion)).1,(y3,((x.2.2.set x.2.1.toNat (y2,t0.2)).getD x.2.1.toNat (Ty.zero tVersion)).2.2))).getD x.2.1.toNat (Ty.zero tVersion)).2.1,(t2,(((x.2.2.set x.2.1.toNat (y2,t0.2)).set x.2.1.toNat (((x.2.2.set x.2.1.toNat (y2,t0.2)).getD x.2.1.toNat (Ty.zero tVersion)).1,(y3,((x.2.2.set x.2.1.toNat (y2,t0.2)).getD x.2.1.toNat (Ty.zero tVersion)).2.2))).getD x.2.1.toNat (Ty.zero tVersion)).2.2.2)))).getD x.2.1.toNat (Ty.zero tVersion)).2.1,(((((x.2.2.set x.2.1.toNat (y2,t0.2)).set x.2.1.toNat (((x.2.2.set x.2.1.toNat (y2,t0.2)).getD x.2.1.toNat (Ty.zero tVersion)).1,(y3,((x.2.2.set x.2.1.toNat (y2,t0.2)).getD x.2.1.toNat (Ty.zero tVersion)).2.2))).set x.2.1.toNat ((((x.2.2.set x.2.1.toNat (y2,t0.2)).set x.2.1.toNat (((x.2.2.set x.2.1.toNat (y2,t0.2)).getD x.2.1.toNat (Ty.zero tVersion)).1,(y3,((x.2.2.set x.2.1.toNat (y2,t0.2)).getD x.2.1.toNat (Ty.zero tVersion)).2.2))).getD x.2.1.toNat (Ty.zero tVersion)).1,((((x.2.2.set x.2.1.toNat (y2,t0.2)).set x.2.1.toNat (((x.2.2.set x.2.1.toNat (y2,t0.2)).getD x.2.1.toNat (Ty.zero tVersion)).1,(y3,((x.2.2.set x.2.1.toNat (y2,t0.2)).getD x.2.1.toNat (Ty.zero tVersion)).2.2))).getD x.2.1.toNat (Ty.zero tVersion)).2.1,(t2,(((x.2.2.set x.2.1.toNat (y2,t0.2)).set x.2.1.toNat (((x.2.2.set x.2.1.toNat (y2,t0.2)).getD x.2.1.toNat (Ty.zero tVersion)).1,(y3,((x.2.2.set x.2.1.toNat (y2,t0.2)).getD x.2.1.toNat (Ty.zero tVersion)).2.2))).getD x.2.1.toNat (Ty.zero tVersion)).2.2.2)))).getD x.2.1.toNat (Ty.zero tVersion)).2.2.1,(IntKind.wrap .i64 (t1+1))))))))
 else none
 else none
 else none)
 else none)
 else
 k (.inr (x.1,x.2.1,x.2.2))
instance n13n_bp0 (x:(Int×Int×(List vaa))):ParC (vgp x):=by unfold vgp;(try dsimp only);infer_instance
def vtq (a0:Int)(a1:(List vaa))(k:(Int×(List vaa))→Option Res):Option Res:=
 vag vgp Fuel (a0,0,a1) (fun z1=>
 k (z1.1,z1.2.2))
def vn2:=shut vtq
theorem vxf:vn2=vtq:=vaz _
instance n13n_p (a0:Int)(a1:(List vaa)):ParC (vn2 a0 a1):=by rw [vxf];unfold vtq;(try dsimp only);infer_instance
def vhs (x:(Int×Int×(List vaf)))(k:(Int×Int×(List vaf))⊕(Int×Int×(List vaf))→Option Res):Option Res:=
 bif (decide (x.2.1<(x.2.2.length:Int)))then
 vdz x.1 (fun y2=>
 if 0≤x.2.1∧x.2.1<(x.2.2.length:Int)then
 vdz (IntKind.wrap .i64 (x.1+1)) (fun y3=>
 if 0≤x.2.1∧x.2.1<((x.2.2.set x.2.1.toNat (y2,(x.2.2.getD x.2.1.toNat (Ty.zero tRange)).2)).length:Int)then
 k (.inl ((IntKind.wrap .i64 ((IntKind.wrap .i64 (x.1+1))+1)),(IntKind.wrap .i64 (x.2.1+1)),((x.2.2.set x.2.1.toNat (y2,(x.2.2.getD x.2.1.toNat (Ty.zero tRange)).2)).set x.2.1.toNat (((x.2.2.set x.2.1.toNat (y2,(x.2.2.getD x.2.1.toNat (Ty.zero tRange)).2)).getD x.2.1.toNat (Ty.zero tRange)).1,y3))))
 else none)
 else none)
 else
 k (.inr (x.1,x.2.1,x.2.2))
instance n11n_bp0 (x:(Int×Int×(List vaf))):ParC (vhs x):=by unfold vhs;(try dsimp only);infer_instance
def vuf (a0:Int)(a1:(List vaf))(k:(Int×(List vaf))→Option Res):Option Res:=
 vag vhs Fuel (a0,0,a1) (fun z1=>
 k (z1.1,z1.2.2))
def vml:=shut vuf
theorem vxy:vml=vuf:=vaz _
instance n11n_p (a0:Int)(a1:(List vaf)):ParC (vml a0 a1):=by rw [vxy];unfold vuf;(try dsimp only);infer_instance
def vf4 (x:q1T)(k:q1T⊕(q1T⊕q1T)→Option Res):Option Res:=
 bif (decide (x.2.2.2<(x.1.length:Int)))then
 if 0≤x.2.2.2∧x.2.2.2<(x.1.length:Int)then
 vdz x.2.1 (fun y3=>
 bif (!(va9 ((rd (Ty.zero tRange) x.1 x.2.2.2).1) y3))then
 k (.inr (.inl (x.1,x.2.1,(-1:Int),x.2.2.2)))
 else
 if 0≤x.2.2.2∧x.2.2.2<(x.1.length:Int)then
 vdz (IntKind.wrap .i64 (x.2.1+1)) (fun y4=>
 bif (!(va9 ((rd (Ty.zero tRange) x.1 x.2.2.2).2) y4))then
 k (.inr (.inl (x.1,(IntKind.wrap .i64 (x.2.1+1)),(-1:Int),x.2.2.2)))
 else
 k (.inl (x.1,(IntKind.wrap .i64 ((IntKind.wrap .i64 (x.2.1+1))+1)),x.2.2.1,(IntKind.wrap .i64 (x.2.2.2+1)))))
 else none)
 else none
 else
 k (.inr (.inr (x.1,x.2.1,x.2.2.1,x.2.2.2)))
instance n10n_bp0 (x:q1T):ParC (vf4 x):=by unfold vf4;(try dsimp only);infer_instance
def vtx (a0:(List vaf))(a1:Int)(k:Int→Option Res):Option Res:=
 vag vf4 Fuel (a0,a1,0,0) (Sum.elim (fun z1=>
 k z1.2.2.1) (fun z2=>
 k z2.2.1))
def viv:=shut vtx
theorem vwo:viv=vtx:=vaz _
instance n10n_p (a0:(List vaf))(a1:Int):ParC (viv a0 a1):=by rw [vwo];unfold vtx;(try dsimp only);infer_instance
def vb0 (x:q6T)(k:q6T→Option Res):Option Res:=
 vml (1:Int) x.2.2.2.2.2.2 (fun y15=>
 viv y15.2 (1:Int) (fun y16=>
 bif (decide (y16<0))then
 k (x.1,x.2.1,false,x.2.2.2.1,x.2.2.2.2.1,x.2.2.2.2.2.1,y15.2)
 else
 bif (y16 != y15.1)then
 k (x.1,x.2.1,false,x.2.2.2.1,x.2.2.2.2.1,x.2.2.2.2.2.1,y15.2)
 else
 ve1 x.1 (fun y17=>
 vhp (x.2.2.2.1,x.2.2.2.2.1) (fun y18=>
 vju y17 y18 x.2.1 (fun y19=>
 vf8 y19 x.2.2.2.2.2.1 (fun y20=>
 bif (!y20)then
 k (x.1,x.2.1,false,x.2.2.2.1,x.2.2.2.2.1,x.2.2.2.2.2.1,y15.2)
 else
 viv y15.2 (1:Int) (fun y21=>
 bif (decide (y21<0))then
 k (x.1,x.2.1,false,x.2.2.2.1,x.2.2.2.2.1,x.2.2.2.2.2.1,y15.2)
 else
 bif (y21 != y15.1)then
 k (x.1,x.2.1,false,x.2.2.2.1,x.2.2.2.2.1,x.2.2.2.2.2.1,y15.2)
 else
 k (x.1,x.2.1,true,x.2.2.2.1,x.2.2.2.2.1,x.2.2.2.2.2.1,y15.2))))))))
instance n05n_jp5000019 (x:q6T):ParC (vb0 x):=by unfold vb0;(try dsimp only);exact⟨((n11n_p _ _).p.bind fun y15=>((n10n_p _ _).p.bind fun y16=>(vdb (vbn _) (vdb (vbn _) ((n19n_p _).p.bind fun y17=>((n17n_p _).p.bind fun y18=>((n01n_p _ _ _).p.bind fun y19=>((n07n_p _ _).p.bind fun y20=>(vdb (vbn _) ((n10n_p _ _).p.bind fun y21=>(vdb (vbn _) (vdb (vbn _) (vbn _)))))))))))))⟩
def vt6 (a0:(List vaa))(a1:vaf)(a2:Int)(k:Bool→Option Res):Option Res:=
 vng a0 (1048576:Int) (fun y1=>
 bif (decide (y1<0))then
 k true
 else
 vnn a1 y1 (fun y2=>
 bif (decide (y2<0))then
 k true
 else
 ve1 a0 (fun y3=>
 vhp a1 (fun y4=>
 vm3 y3 y4 a2 (fun y5=>
 ve1 a0 (fun y6=>
 vhp a1 (fun y7=>
 vju y6 y7 a2 (fun y8=>
 vf8 y8 y5 (fun y9=>
 bif (!y9)then
 k false
 else
 ve1 a0 (fun y10=>
 vln y6 y10 (fun y11=>
 bif (!y11)then
 k false
 else
 vn2 (1:Int) y6 (fun y12=>
 bif (decide (y12.1<0))then
 k false
 else
 vf8 y8 y5 (fun y13=>
 bif (!y13)then
 k false
 else
 vb0 (a0,a2,false,a1.1,a1.2,y5,y8) (fun z14=>
 k z14.2.2.1))))))))))))))
def vpt:=shut vt6
theorem vyh:vpt=vt6:=vaz _
instance n05n_p (a0:(List vaa))(a1:vaf)(a2:Int):ParC (vpt a0 a1 a2):=by rw [vyh];unfold vt6;(try dsimp only);exact⟨((n16n_p _ _).p.bind fun y1=>(vdb (vbn _) ((n14n_p _ _).p.bind fun y2=>(vdb (vbn _) ((n19n_p _).p.bind fun y3=>((n17n_p _).p.bind fun y4=>((n23n_p _ _ _).p.bind fun y5=>((n19n_p _).p.bind fun y6=>((n17n_p _).p.bind fun y7=>((n01n_p _ _ _).p.bind fun y8=>((n07n_p _ _).p.bind fun y9=>(vdb (vbn _) ((n19n_p _).p.bind fun y10=>((n09n_p _ _).p.bind fun y11=>(vdb (vbn _) ((n13n_p _ _).p.bind fun y12=>(vdb (vbn _) ((n07n_p _ _).p.bind fun y13=>(vdb (vbn _) ((n05n_jp5000019 _).p.bind fun z14=>(vbn _)))))))))))))))))))))⟩
def v1b (args:List AV)(st:St)(k:K1):Option Res:=
 va1 [.agg [.str,.str,.bool,.i],.i] [] args st (fun p q=>vnp (p.1.1,(p.1.2.1,(p.1.2.2.1,p.1.2.2.2.1))) p.2.1 (fun(y:Int)=>k (.i y) []))
 (none)
def v04 (args:List AV)(st:St)(k:K1):Option Res:=
 va1 [.lst tVersion,.i] [] args st (fun p q=>vng p.1 p.2.1 (fun(y:Int)=>k (.i y) []))
 (none)
def v0m (args:List AV)(st:St)(k:K1):Option Res:=
 va1 [.agg [.str,.str],.i] [] args st (fun p q=>vnn (p.1.1,p.1.2.1) p.2.1 (fun(y:Int)=>k (.i y) []))
 (none)
def v06 (args:List AV)(st:St)(k:K1):Option Res:=
 va1 [.agg [.str,.str,.bool,.i]] [] args st (fun p q=>vn0 (p.1.1,(p.1.2.1,(p.1.2.2.1,p.1.2.2.2.1))) (fun(y:q13T)=>k (.agg [.str y.1,.str y.2.1,.bool y.2.2.1,.i y.2.2.2]) []))
 (none)
def v03 (args:List AV)(st:St)(k:K1):Option Res:=
 va1 [.lst tVersion] [] args st (fun p q=>ve1 p.1 (fun(y:(List vaa))=>k (.own 0) [.arr tVersion y]))
 (none)
def v0j (args:List AV)(st:St)(k:K1):Option Res:=
 va1 [.agg [.str,.str]] [] args st (fun p q=>vhp (p.1.1,p.1.2.1) (fun(y:(ByteArray×ByteArray))=>k (.agg [.str y.1,.str y.2]) []))
 (none)
def v0n (args:List AV)(st:St)(k:K1):Option Res:=
 va1 [.agg [.str,.str],.str] [] args st (fun p q=>vmv (p.1.1,p.1.2.1) p.2.1 (fun(y:Bool)=>k (.bool y) []))
 (none)
def v0l (args:List AV)(st:St)(k:K1):Option Res:=
 va1 [.lst tVersion,.agg [.str,.str]] [] args st (fun p q=>vql p.1 (p.2.1.1,p.2.1.2.1) (fun(y:(List ByteArray))=>k (.own 0) [.arr .str y]))
 (none)
def v05 (args:List AV)(st:St)(k:K1):Option Res:=
 va1 [.lst tVersion,.str,.i] [] args st (fun p q=>vm4 p.1 p.2.1 p.2.2.1 (fun(y:Int)=>k (.i y) []))
 (none)
def v0u (args:List AV)(st:St)(k:K1):Option Res:=
 va1 [.lst tVersion,.str,.i] [] args st (fun p q=>vq0 p.1 p.2.1 p.2.2.1 (fun(y:(ByteArray×Bool))=>k (.tup [.str y.1,.bool y.2]) []))
 (none)
def v0t (args:List AV)(st:St)(k:K1):Option Res:=
 va1 [.lst tVersion,.agg [.str,.str],.i] [] args st (fun p q=>vm3 p.1 (p.2.1.1,p.2.1.2.1) p.2.2.1 (fun(y:(List vaf))=>k (.own 0) [.arr tRange y]))
 (none)
def vb4 (args:List AV)(st:St)(k:K1):Option Res:=
 va1 [.own 0] [.arr .str] args st (fun p q=>vmo q.1 (fun(y:(List ByteArray))=>k (.tup []) [.arr .str y]))
 (none)
def vcj (args:List AV)(st:St)(k:K1):Option Res:=
 va1 [.own 0] [.arr .str] args st (fun p q=>vlt q.1 (Sum.elim (fun(y:(List ByteArray))=>k (.own 0) [.arr .str y]) (fun(y:(List ByteArray))=>k (.own 1) [.gone,.arr .str y])))
 (none)
def v0w (args:List AV)(st:St)(k:K1):Option Res:=
 va1 [.lst tVersion] [] args st (fun p q=>vnb p.1 (fun(y:(List ByteArray))=>k (.own 0) [.arr .str y]))
 (none)
def v00 (args:List AV)(st:St)(k:K1):Option Res:=
 va1 [.lst tVersion,.str,.i] [] args st (fun p q=>vmw p.1 p.2.1 p.2.2.1 (fun(y:Int)=>k (.i y) []))
 (none)
def v0z (args:List AV)(st:St)(k:K1):Option Res:=
 va1 [.lst tVersion,.str,.i] [] args st (fun p q=>vp0 p.1 p.2.1 p.2.2.1 (fun(y:(ByteArray×Bool))=>k (.tup [.str y.1,.bool y.2]) []))
 (none)
def v02 (args:List AV)(st:St)(k:K1):Option Res:=
 va1 [.agg [.str,.str],.str] [] args st (fun p q=>vnj (p.1.1,p.1.2.1) p.2.1 (fun(y:Bool)=>k (.bool y) []))
 (none)
def v0q (args:List AV)(st:St)(k:K1):Option Res:=
 va1 [.lst tVersion,.agg [.str,.str],.i] [] args st (fun p q=>vju p.1 (p.2.1.1,p.2.1.2.1) p.2.2.1 (fun(y:(List vaf))=>k (.own 0) [.arr tRange y]))
 (none)
def v08 (args:List AV)(st:St)(k:K1):Option Res:=
 va1 [.agg [.str,.str],.agg [.str,.str]] [] args st (fun p q=>vno (p.1.1,p.1.2.1) (p.2.1.1,p.2.1.2.1) (fun(y:Bool)=>k (.bool y) []))
 (none)
def v1a (args:List AV)(st:St)(k:K1):Option Res:=
 va1 [.lst tRange,.lst tRange] [] args st (fun p q=>vf8 p.1 p.2.1 (fun(y:Bool)=>k (.bool y) []))
 (none)
def v0k (args:List AV)(st:St)(k:K1):Option Res:=
 va1 [.agg [.str,.str,.bool,.i],.agg [.str,.str,.bool,.i]] [] args st (fun p q=>vmr (p.1.1,(p.1.2.1,(p.1.2.2.1,p.1.2.2.2.1))) (p.2.1.1,(p.2.1.2.1,(p.2.1.2.2.1,p.2.1.2.2.2.1))) (fun(y:Bool)=>k (.bool y) []))
 (none)
def v01 (args:List AV)(st:St)(k:K1):Option Res:=
 va1 [.lst tVersion,.lst tVersion] [] args st (fun p q=>vln p.1 p.2.1 (fun(y:Bool)=>k (.bool y) []))
 (none)
def v0y (args:List AV)(st:St)(k:K1):Option Res:=
 va1 [.i] [] args st (fun p q=>vdz p.1 (fun(y:ByteArray)=>k (.str y) []))
 (none)
def vd2 (args:List AV)(st:St)(k:K1):Option Res:=
 va1 [.own 0,.i] [.arr tVersion] args st (fun p q=>vn2 p.2.1 q.1 (fun(y:(Int×(List vaa)))=>k (.i y.1) [.arr tVersion y.2]))
 (none)
def vfu (args:List AV)(st:St)(k:K1):Option Res:=
 va1 [.own 0,.i] [.arr tRange] args st (fun p q=>vml p.2.1 q.1 (fun(y:(Int×(List vaf)))=>k (.i y.1) [.arr tRange y.2]))
 (none)
def v09 (args:List AV)(st:St)(k:K1):Option Res:=
 va1 [.lst tRange,.i] [] args st (fun p q=>viv p.1 p.2.1 (fun(y:Int)=>k (.i y) []))
 (none)
def vx1 (args:List AV)(st:St)(k:K1):Option Res:=
 va1 [.lst tVersion,.agg [.str,.str],.i] [] args st (fun p q=>vpt p.1 (p.2.1.1,p.2.1.2.1) p.2.2.1 (fun(y:Bool)=>k (.bool y) []))
 (none)
end
end Go.VE
