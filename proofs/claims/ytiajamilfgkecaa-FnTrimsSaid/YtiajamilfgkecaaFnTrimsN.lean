/- Native programs of the functions, written by gen.py. -/
import Derived.Test.YtiajamilfgkecaaT0
import Derived.Test.YtiajamilfgkecaaU28
namespace Go.VE
noncomputable section
set_option linter.unusedVariables false
set_option linter.unusedSimpArgs false
set_option maxRecDepth 100000
abbrev q0T:Type:=((List (List vaa))×Int×(List (List vaa))×Int×Int)
abbrev q1T:Type:=((List (List vaa))×Int×Int×(List vaa))
abbrev q2T:Type:=((List Int)×Bool×Int×Int×(List vaa)×(List vaa))
abbrev q3T:Type:=((List Int)×Int×Int×(List vaa))
abbrev q4T:Type:=((List Int)×Int×Int×(List va3))
abbrev q5T:Type:=((List vam)×(List vam)×Bool×Int×Int)
abbrev q6T:Type:=((List vam)×(List vam)×Bool×Int)
abbrev q7T:Type:=((List vaa)×(List vaa)×Bool×Int)
abbrev q8T:Type:=((List vaa)×(List vaa)×Int×Bool×Int×ByteArray×ByteArray)
abbrev q9T:Type:=((List vaa)×(List vaa)×Int×Bool×Int×Int×ByteArray×ByteArray)
abbrev q10T:Type:=((List vaa)×Bool×(List vaa)×Int×Int)
abbrev q11T:Type:=((List vaa)×ByteArray×Int×Int×(List vaa)×Int×Int)
abbrev q12T:Type:=((List vaa)×ByteArray×Int×Int×Int)
abbrev q13T:Type:=((List vaa)×Int×(List vaa)×Int×Int×(List vaa))
abbrev q14T:Type:=((List vaa)×Int×(List vaa)×Int×Int×Bool×ByteArray×ByteArray×Bool×Int×(List vaa))
abbrev q15T:Type:=((List vaa)×Int×ByteArray×ByteArray×(List ByteArray))
abbrev q16T:Type:=((List vaa)×Int×ByteArray×Int×ByteArray×ByteArray×(List ByteArray)×(List ByteArray))
abbrev q17T:Type:=((List vaa)×Int×Int×(List ByteArray))
abbrev q18T:Type:=((List vaa)×Int×Int×(List vam)×(List ByteArray))
abbrev q19T:Type:=((List vaa)×Int×Int×(List vaa))
abbrev q20T:Type:=((List vaa)×Int×Int×Bool×(List vaa))
abbrev q21T:Type:=((List vaa)×Int×Int×Int×ByteArray×ByteArray×(List vam)×(List ByteArray))
abbrev q22T:Type:=((List va3)×Int×ByteArray×ByteArray×Bool×(List va3))
abbrev q23T:Type:=((List va3)×Int×Int×(List vaa))
abbrev q24T:Type:=((List va3)×Int×Int×Int×(List vaa)×ByteArray×ByteArray×Bool×Int×(List vaa))
abbrev q25T:Type:=(Bool×(List vaa)×(List vaa))
abbrev q26T:Type:=(ByteArray×(List Int)×Int×Int)
abbrev q27T:Type:=(ByteArray×ByteArray×(List Int)×Int×Int)
abbrev q28T:Type:=(ByteArray×ByteArray×Bool×(List Int)×Int×Int)
abbrev q29T:Type:=(ByteArray×ByteArray×Int×(List vaa))
abbrev q30T:Type:=(ByteArray×Int×Int×Int×(List vaa))
abbrev q31T:Type:=(Int×(List ByteArray)×(List ByteArray))
abbrev q32T:Type:=(Int×(List Int)×Int×Int×(List Int))
abbrev q33T:Type:=(Int×(List Int)×Int×Int×(List vaa))
abbrev q34T:Type:=(Int×(List Int)×Int×Int×(List va3))
abbrev q35T:Type:=(Int×(List vaa)×(List vaa))
abbrev q36T:Type:=(Int×Bool×Int×Int×(List vaa)×(List vaa)×(List vaa))
abbrev q37T:Type:=(Int×Int×(List vaa)×(List vaa))
abbrev q38T:Type:=(Int×Int×Bool×(List vaa)×(List vaa))
abbrev q39T:Type:=(Int×Int×Int×(List vaa)×(List vaa))
abbrev q40T:Type:=(Int×Int×Int×Int×(List vaa)×(List vaa))
def v3s (a0:(List Int))(k:Bool→Option Res):Option Res:=
 k (decide ((a0.length:Int)>(1048576:Int)))
def vp3:=shut v3s
theorem v4d:vp3=v3s:=vaj _
instance n20n_p (a0:(List Int)):ParC (vp3 a0):=by rw [v4d];unfold v3s;(try dsimp only);infer_instance
def vdk (x:((List Int)×Int×Int))(k:((List Int)×Int×Int)→Option Res):Option Res:=
 if 0≤x.2.2∧x.2.2<(x.1.length:Int)then
 k (x.1,(IntKind.wrap .i64 (BitVec.ofInt (IntKind.bits .i64) (IntKind.wrap .i64 ((IntKind.wrap .i64 ((IntKind.wrap .i64 (x.2.1*(131:Int)))+(IntKind.wrap .i64 (rd (Ty.zero (.int .u8)) x.1 x.2.2))))+7)) &&& BitVec.ofInt (IntKind.bits .i64) (1073741823:Int)).toNat),(IntKind.wrap .i64 (x.2.2+1)))
 else none
instance n43n_jp6000001 (x:((List Int)×Int×Int)):ParC (vdk x):=by unfold vdk;(try dsimp only);infer_instance
def vko (x:((List Int)×Int×Int))(k:((List Int)×Int×Int)⊕((List Int)×Int×Int)→Option Res):Option Res:=
 bif (decide (x.2.2<(x.1.length:Int)))then
 bif (decide (x.2.2<4000))then
 vdk (x.1,x.2.1,x.2.2) (fun z2=>
 k (.inl (z2.1,z2.2.1,z2.2.2)))
 else
 k (.inr (x.1,x.2.1,x.2.2))
 else
 k (.inr (x.1,x.2.1,x.2.2))
instance n43n_bp0 (x:((List Int)×Int×Int)):ParC (vko x):=by unfold vko;(try dsimp only);infer_instance
def v0u (a0:(List Int))(k:((List Int)×Int×Int)→Option Res):Option Res:=
 vae vko Fuel (a0,(IntKind.wrap .i64 ((77601:Int)+(a0.length:Int))),0) (fun z1=>
 k (z1.1,0,z1.2.1))
def vlk:=shut v0u
theorem v44:vlk=v0u:=vaj _
instance n43n_p (a0:(List Int)):ParC (vlk a0):=by rw [v44];unfold v0u;(try dsimp only);infer_instance
def vz3 (a0:(List Int))(a1:Int)(a2:Int)(k:(Int×(List Int)×Int×Int)→Option Res):Option Res:=
 bif (decide (a1<(a0.length:Int)))then
 if 0≤a1∧a1<(a0.length:Int)then
 k ((IntKind.wrap .i64 (BitVec.ofInt (IntKind.bits .i64) (IntKind.wrap .i64 ((IntKind.wrap .i64 (BitVec.ofInt (IntKind.bits .i64) (IntKind.wrap .i64 (BitVec.ofInt (IntKind.bits .i64) ((IntKind.wrap .i64 ((IntKind.wrap .i64 (a2*(6364136223846793005:Int)))+1442695040888963407)).fdiv (2^(min (33:Int).toNat (IntKind.bits .i64)))) ^^^ BitVec.ofInt (IntKind.bits .i64) ((IntKind.wrap .i64 ((IntKind.wrap .i64 (a2*(6364136223846793005:Int)))+1442695040888963407)).fdiv (2^(min (45:Int).toNat (IntKind.bits .i64))))).toNat) &&& BitVec.ofInt (IntKind.bits .i64) (255:Int)).toNat)+(IntKind.wrap .i64 (rd (Ty.zero (.int .u8)) a0 a1)))) &&& BitVec.ofInt (IntKind.bits .i64) (255:Int)).toNat),a0,(IntKind.wrap .i64 (a1+1)),(IntKind.wrap .i64 ((IntKind.wrap .i64 (a2*(6364136223846793005:Int)))+1442695040888963407)))
 else none
 else
 k ((IntKind.wrap .i64 (BitVec.ofInt (IntKind.bits .i64) (IntKind.wrap .i64 (BitVec.ofInt (IntKind.bits .i64) ((IntKind.wrap .i64 ((IntKind.wrap .i64 (a2*(6364136223846793005:Int)))+1442695040888963407)).fdiv (2^(min (33:Int).toNat (IntKind.bits .i64)))) ^^^ BitVec.ofInt (IntKind.bits .i64) ((IntKind.wrap .i64 ((IntKind.wrap .i64 (a2*(6364136223846793005:Int)))+1442695040888963407)).fdiv (2^(min (45:Int).toNat (IntKind.bits .i64))))).toNat) &&& BitVec.ofInt (IntKind.bits .i64) (255:Int)).toNat),a0,a1,(IntKind.wrap .i64 ((IntKind.wrap .i64 (a2*(6364136223846793005:Int)))+1442695040888963407)))
def vjt:=shut vz3
theorem v6b:vjt=vz3:=vaj _
instance n41n_p (a0:(List Int))(a1:Int)(a2:Int):ParC (vjt a0 a1 a2):=by rw [v6b];unfold vz3;(try dsimp only);infer_instance
def vuz (a0:Int)(a1:(List Int))(a2:Int)(a3:Int)(k:(Int×(List Int)×Int×Int)→Option Res):Option Res:=
 bif (decide (a0≤0))then
 k (0,a1,a2,a3)
 else
 bif (decide (a0≤256))then
 vjt a1 a2 a3 (fun y1=>
 if a0=0 then none else
 k ((y1.1.tmod a0),y1.2.1,y1.2.2.1,y1.2.2.2))
 else
 vjt a1 a2 a3 (fun y2=>
 vjt y2.2.1 y2.2.2.1 y2.2.2.2 (fun y3=>
 vjt y3.2.1 y3.2.2.1 y3.2.2.2 (fun y4=>
 vjt y4.2.1 y4.2.2.1 y4.2.2.2 (fun y5=>
 if a0=0 then none else
 k (((IntKind.wrap .i64 ((IntKind.wrap .i64 ((IntKind.wrap .i64 ((IntKind.wrap .i64 (y2.1*(16777216:Int)))+(IntKind.wrap .i64 (y3.1*(65536:Int)))))+(IntKind.wrap .i64 (y4.1*(256:Int)))))+y5.1)).tmod a0),y5.2.1,y5.2.2.1,y5.2.2.2)))))
def vev:=shut vuz
theorem vzd:vev=vuz:=vaj _
instance n40n_p (a0:Int)(a1:(List Int))(a2:Int)(a3:Int):ParC (vev a0 a1 a2 a3):=by rw [vzd];unfold vuz;(try dsimp only);exact⟨(va7 (vao _) (va7 ((n41n_p _ _ _).p.bind fun y1=>(vco vbs (vao _))) ((n41n_p _ _ _).p.bind fun y2=>((n41n_p _ _ _).p.bind fun y3=>((n41n_p _ _ _).p.bind fun y4=>((n41n_p _ _ _).p.bind fun y5=>(vco vbs (vao _))))))))⟩
def v0g (a0:(List ByteArray))(a1:(List Int))(a2:Int)(a3:Int)(k:q26T→Option Res):Option Res:=
 vev (a0.length:Int) a1 a2 a3 (fun y1=>
 if 0≤y1.1∧y1.1<(a0.length:Int)then
 k ((rd (Ty.zero .str) a0 y1.1),y1.2.1,y1.2.2.1,y1.2.2.2)
 else none)
def vq1:=shut v0g
theorem v5v:vq1=v0g:=vaj _
instance n45n_p (a0:(List ByteArray))(a1:(List Int))(a2:Int)(a3:Int):ParC (vq1 a0 a1 a2 a3):=by rw [v5v];unfold v0g;(try dsimp only);infer_instance
def vtn (a0:(List Int))(a1:Int)(a2:Int)(k:q26T→Option Res):Option Res:=
 vq1 [(⟨#[97]⟩:ByteArray),(⟨#[98]⟩:ByteArray),(⟨#[99]⟩:ByteArray),(⟨#[100]⟩:ByteArray),(⟨#[97,98]⟩:ByteArray)] a0 a1 a2 (fun y1=>
 k (y1.1,y1.2.1,y1.2.2.1,y1.2.2.2))
def vm5:=shut vtn
theorem vy9:vm5=vtn:=vaj _
instance n46n_p (a0:(List Int))(a1:Int)(a2:Int):ParC (vm5 a0 a1 a2):=by rw [vy9];unfold vtn;(try dsimp only);infer_instance
def vzh (a0:Int)(a1:(List Int))(a2:Int)(a3:Int)(k:(Bool×(List Int)×Int×Int)→Option Res):Option Res:=
 vev a0 a1 a2 a3 (fun y1=>
 k ((y1.1==(0:Int)),y1.2.1,y1.2.2.1,y1.2.2.2))
def vnq:=shut vzh
theorem v57:vnq=vzh:=vaj _
instance n44n_p (a0:Int)(a1:(List Int))(a2:Int)(a3:Int):ParC (vnq a0 a1 a2 a3):=by rw [v57];unfold vzh;(try dsimp only);infer_instance
def v0r (a0:(List Int))(a1:Int)(a2:Int)(k:q28T→Option Res):Option Res:=
 vm5 a0 a1 a2 (fun y1=>
 vq1 [(⟨#[111,110,101]⟩:ByteArray),(⟨#[116,119,111]⟩:ByteArray),(⟨#[]⟩:ByteArray),(⟨#[120,0]⟩:ByteArray)] y1.2.1 y1.2.2.1 y1.2.2.2 (fun y2=>
 vnq (5:Int) y2.2.1 y2.2.2.1 y2.2.2.2 (fun y3=>
 bif y3.1 then
 k (y1.1,(⟨#[]⟩:ByteArray),true,y3.2.1,y3.2.2.1,y3.2.2.2)
 else
 k (y1.1,y2.1,false,y3.2.1,y3.2.2.1,y3.2.2.2))))
def vus:=shut v0r
theorem v29:vus=v0r:=vaj _
instance n48n_p (a0:(List Int))(a1:Int)(a2:Int):ParC (vus a0 a1 a2):=by rw [v29];unfold v0r;(try dsimp only);infer_instance
def vhw (x:q22T)(k:q22T⊕q22T→Option Res):Option Res:=
 bif (decide (x.2.1<(x.1.length:Int)))then
 if 0≤x.2.1∧x.2.1<(x.1.length:Int)then
 bif (vab ((rd (Ty.zero tWrite) x.1 x.2.1).1) x.2.2.1)then
 if 0≤x.2.1∧x.2.1<(x.1.length:Int)then
 if x.2.2.2.2.2.length+[(rd (Ty.zero tWrite) x.1 x.2.1)].length≤VE.maxLen then
 k (.inl (x.1,(IntKind.wrap .i64 (x.2.1+(1:Int))),x.2.2.1,x.2.2.2.1,x.2.2.2.2.1,(x.2.2.2.2.2++[(rd (Ty.zero tWrite) x.1 x.2.1)])))
 else none
 else none
 else
 k (.inl (x.1,(IntKind.wrap .i64 (x.2.1+1)),x.2.2.1,x.2.2.2.1,x.2.2.2.2.1,x.2.2.2.2.2))
 else none
 else
 k (.inr (x.1,x.2.1,x.2.2.1,x.2.2.2.1,x.2.2.2.2.1,x.2.2.2.2.2))
instance n35n_bp0 (x:q22T):ParC (vhw x):=by unfold vhw;(try dsimp only);infer_instance
def vhz (x:q22T)(k:q22T⊕q22T→Option Res):Option Res:=
 bif (decide (x.2.1<(x.1.length:Int)))then
 if 0≤x.2.1∧x.2.1<(x.1.length:Int)then
 bif (!((vab ((rd (Ty.zero tWrite) x.1 x.2.1).1) x.2.2.1)||(van ((rd (Ty.zero tWrite) x.1 x.2.1).1) x.2.2.1)))then
 if 0≤x.2.1∧x.2.1<(x.1.length:Int)then
 if x.2.2.2.2.2.length+[(rd (Ty.zero tWrite) x.1 x.2.1)].length≤VE.maxLen then
 k (.inl (x.1,(IntKind.wrap .i64 (x.2.1+(1:Int))),x.2.2.1,x.2.2.2.1,x.2.2.2.2.1,(x.2.2.2.2.2++[(rd (Ty.zero tWrite) x.1 x.2.1)])))
 else none
 else none
 else
 k (.inl (x.1,(IntKind.wrap .i64 (x.2.1+1)),x.2.2.1,x.2.2.2.1,x.2.2.2.2.1,x.2.2.2.2.2))
 else none
 else
 k (.inr (x.1,x.2.1,x.2.2.1,x.2.2.2.1,x.2.2.2.2.1,x.2.2.2.2.2))
instance n35n_bp2 (x:q22T):ParC (vhz x):=by unfold vhz;(try dsimp only);infer_instance
def vz8 (a0:(List va3))(a1:va3)(k:(List va3)→Option Res):Option Res:=
 vae vhw Fuel (a0,0,a1.1,a1.2.1,a1.2.2,([]:List va3)) (fun z1=>
 if z1.2.2.2.2.2.length+[(z1.2.2.1,(z1.2.2.2.1,z1.2.2.2.2.1))].length≤VE.maxLen then
 vae vhz Fuel (z1.1,(0:Int),z1.2.2.1,z1.2.2.2.1,z1.2.2.2.2.1,(z1.2.2.2.2.2++[(z1.2.2.1,(z1.2.2.2.1,z1.2.2.2.2.1))])) (fun z2=>
 k z2.2.2.2.2.2)
 else none)
def vo2:=shut vz8
theorem v5a:vo2=vz8:=vaj _
instance n35n_p (a0:(List va3))(a1:va3):ParC (vo2 a0 a1):=by rw [v5a];unfold vz8;(try dsimp only);infer_instance
def vkq (x:q34T)(k:q34T⊕q34T→Option Res):Option Res:=
 vev (4:Int) x.2.1 x.2.2.1 x.2.2.2.1 (fun y2=>
 bif (decide (x.1<y2.1))then
 vus y2.2.1 y2.2.2.1 y2.2.2.2 (fun y3=>
 vo2 x.2.2.2.2 (y3.1,(y3.2.1,y3.2.2.1)) (fun y4=>
 k (.inl ((IntKind.wrap .i64 (x.1+1)),y3.2.2.2.1,y3.2.2.2.2.1,y3.2.2.2.2.2,y4))))
 else
 k (.inr (x.1,y2.2.1,y2.2.2.1,y2.2.2.2,x.2.2.2.2)))
instance n49n_bp0 (x:q34T):ParC (vkq x):=by unfold vkq;(try dsimp only);infer_instance
def vzx (a0:(List Int))(a1:Int)(a2:Int)(k:q4T→Option Res):Option Res:=
 vae vkq Fuel (0,a0,a1,a2,([]:List va3)) (fun z1=>
 k (z1.2.1,z1.2.2.1,z1.2.2.2.1,z1.2.2.2.2))
def vt1:=shut vzx
theorem v3v:vt1=vzx:=vaj _
instance n49n_p (a0:(List Int))(a1:Int)(a2:Int):ParC (vt1 a0 a1 a2):=by rw [v3v];unfold vzx;(try dsimp only);infer_instance
def vcu (x:q24T)(k:q24T→Option Res):Option Res:=
 let xh:=x.2.2.2.2.2.2.2.2
 if 0≤x.2.2.2.1∧x.2.2.2.1<(x.2.2.2.2.1.length:Int)then
 if xh.2.length+[(x.2.2.2.2.1.getD x.2.2.2.1.toNat (Ty.zero tVersion))].length≤VE.maxLen then
 k (x.1,x.2.1,x.2.2.1,(IntKind.wrap .i64 (x.2.2.2.1+(1:Int))),x.2.2.2.2.1,x.2.2.2.2.2.1,x.2.2.2.2.2.2.1,x.2.2.2.2.2.2.2.1,xh.1,(xh.2++[(x.2.2.2.2.1.getD x.2.2.2.1.toNat (Ty.zero tVersion))]))
 else none
 else none
instance n34n_jp6000003 (x:q24T):ParC (vcu x):=by unfold vcu;(try dsimp only);infer_instance
def vkk (x:q24T)(k:q24T⊕q24T→Option Res):Option Res:=
 let xh:=x.2.2.2.2.2.2.2.2
 let t0:=(x.1,x.2.1,x.2.2.1,x.2.2.2.1,x.2.2.2.2.1,x.2.2.2.2.2.1,x.2.2.2.2.2.2.1,x.2.2.2.2.2.2.2.1,xh.1,xh.2)
 let t1:=(x.2.2.2.2.1.getD x.2.2.2.1.toNat (Ty.zero tVersion))
 bif (decide (x.2.2.2.1<(x.2.2.2.2.1.length:Int)))then
 if 0≤x.2.2.2.1∧x.2.2.2.1<(x.2.2.2.2.1.length:Int)then
 bif (vab (t1.1) x.2.2.2.2.2.1)then
 vcu t0 (fun z3=>
 let z3h:=z3.2.2.2.2.2.2.2.2
 k (.inl (z3.1,z3.2.1,z3.2.2.1,z3.2.2.2.1,z3.2.2.2.2.1,z3.2.2.2.2.2.1,z3.2.2.2.2.2.2.1,z3.2.2.2.2.2.2.2.1,z3h.1,z3h.2)))
 else
 if 0≤x.2.2.2.1∧x.2.2.2.1<(x.2.2.2.2.1.length:Int)then
 bif (van (t1.1) x.2.2.2.2.2.1)then
 if 0≤x.2.2.2.1∧x.2.2.2.1<(x.2.2.2.2.1.length:Int)then
 bif (decide (t1.2.2.2≤xh.1))then
 vcu t0 (fun z4=>
 let z4h:=z4.2.2.2.2.2.2.2.2
 k (.inl (z4.1,z4.2.1,z4.2.2.1,z4.2.2.2.1,z4.2.2.2.2.1,z4.2.2.2.2.2.1,z4.2.2.2.2.2.2.1,z4.2.2.2.2.2.2.2.1,z4h.1,z4h.2)))
 else
 k (.inr t0)
 else none
 else
 k (.inr t0)
 else none
 else none
 else
 k (.inr t0)
instance n34n_bp2 (x:q24T):ParC (vkk x):=by unfold vkk;(try dsimp only);infer_instance
def vj4 (x:q23T)(k:q23T⊕q23T→Option Res):Option Res:=
 bif (decide (x.2.2.1<(x.1.length:Int)))then
 if 0≤x.2.2.1∧x.2.2.1<(x.1.length:Int)then
 if 0≤x.2.2.1∧x.2.2.1<(x.1.length:Int)then
 if 0≤x.2.2.1∧x.2.2.1<(x.1.length:Int)then
 vae vkk Fuel (x.1,x.2.1,x.2.2.1,0,x.2.2.2,(rd (Ty.zero tWrite) x.1 x.2.2.1).1,(rd (Ty.zero tWrite) x.1 x.2.2.1).2.1,(rd (Ty.zero tWrite) x.1 x.2.2.1).2.2,x.2.1,([]:List vaa)) (fun z2=>
 let z2h:=z2.2.2.2.2.2.2.2.2
 if z2h.2.length+[(z2.2.2.2.2.2.1,(z2.2.2.2.2.2.2.1,(z2.2.2.2.2.2.2.2.1,z2h.1)))].length≤VE.maxLen then
 if 0≤z2.2.2.2.1∧z2.2.2.2.1≤(z2.2.2.2.2.1.length:Int)then
 if(z2h.2++[(z2.2.2.2.2.2.1,(z2.2.2.2.2.2.2.1,(z2.2.2.2.2.2.2.2.1,z2h.1)))]).length+(z2.2.2.2.2.1.drop z2.2.2.2.1.toNat).length≤VE.maxLen then
 k (.inl (z2.1,z2.2.1,(IntKind.wrap .i64 (z2.2.2.1+(1:Int))),((z2h.2++[(z2.2.2.2.2.2.1,(z2.2.2.2.2.2.2.1,(z2.2.2.2.2.2.2.2.1,z2h.1)))])++(z2.2.2.2.2.1.drop z2.2.2.2.1.toNat))))
 else none
 else none
 else none)
 else none
 else none
 else none
 else
 k (.inr (x.1,x.2.1,x.2.2.1,x.2.2.2))
instance n34n_bp0 (x:q23T):ParC (vj4 x):=by unfold vj4;(try dsimp only);infer_instance
def vzn (a0:(List vaa))(a1:(List va3))(a2:Int)(k:(List vaa)→Option Res):Option Res:=
 if([]:List vaa).length+a0.length≤VE.maxLen then
 vae vj4 Fuel (a1,a2,0,(([]:List vaa)++a0)) (fun z1=>
 k z1.2.2.2)
 else none
def vqd:=shut vzn
theorem v2u:vqd=vzn:=vaj _
instance n34n_p (a0:(List vaa))(a1:(List va3))(a2:Int):ParC (vqd a0 a1 a2):=by rw [v2u];unfold vzn;(try dsimp only);infer_instance
def vkc (x:q33T)(k:q33T⊕q33T→Option Res):Option Res:=
 vev (8:Int) x.2.1 x.2.2.1 x.2.2.2.1 (fun y2=>
 bif (decide (x.1<y2.1))then
 vt1 y2.2.1 y2.2.2.1 y2.2.2.2 (fun y3=>
 vqd x.2.2.2.2 y3.2.2.2 (IntKind.wrap .i64 (x.1+1)) (fun y4=>
 k (.inl ((IntKind.wrap .i64 (x.1+1)),y3.1,y3.2.1,y3.2.2.1,y4))))
 else
 k (.inr (x.1,y2.2.1,y2.2.2.1,y2.2.2.2,x.2.2.2.2)))
instance n55n_bp0 (x:q33T):ParC (vkc x):=by unfold vkc;(try dsimp only);infer_instance
def vy4 (a0:(List Int))(a1:Int)(a2:Int)(k:q3T→Option Res):Option Res:=
 vae vkc Fuel (0,a0,a1,a2,([]:List vaa)) (fun z1=>
 k (z1.2.1,z1.2.2.1,z1.2.2.2.1,z1.2.2.2.2))
def vqc:=shut vy4
theorem v5w:vqc=vy4:=vaj _
instance n55n_p (a0:(List Int))(a1:Int)(a2:Int):ParC (vqc a0 a1 a2):=by rw [v5w];unfold vy4;(try dsimp only);infer_instance
def vyy (a0:(List Int))(k:(List vaa)→Option Res):Option Res:=
 vlk a0 (fun y1=>
 vqc y1.1 y1.2.1 y1.2.2 (fun y2=>
 k y2.2.2.2))
def vrm:=shut vyy
theorem v2x:vrm=vyy:=vaj _
instance n32n_p (a0:(List Int)):ParC (vrm a0):=by rw [v2x];unfold vyy;(try dsimp only);infer_instance
def vkd (x:q32T)(k:q32T⊕q32T→Option Res):Option Res:=
 bif (decide (x.1<12))then
 vev (10000:Int) x.2.1 x.2.2.1 x.2.2.2.1 (fun y4=>
 if x.2.2.2.2.length+[y4.1].length≤VE.maxLen then
 k (.inl ((IntKind.wrap .i64 (x.1+1)),y4.2.1,y4.2.2.1,y4.2.2.2,(x.2.2.2.2++[y4.1])))
 else none)
 else
 k (.inr (x.1,x.2.1,x.2.2.1,x.2.2.2.1,x.2.2.2.2))
instance n28n_bp0 (x:q32T):ParC (vkd x):=by unfold vkd;(try dsimp only);infer_instance
def v0l (a0:(List Int))(k:(List Int)→Option Res):Option Res:=
 vlk a0 (fun y1=>
 vjt y1.1 y1.2.1 y1.2.2 (fun y2=>
 vae vkd Fuel (0,y2.2.1,y2.2.2.1,y2.2.2.2,([]:List Int)) (fun z3=>
 k z3.2.2.2.2)))
def vq2:=shut v0l
theorem v5s:vq2=v0l:=vaj _
instance n28n_p (a0:(List Int)):ParC (vq2 a0):=by rw [v5s];unfold v0l;(try dsimp only);infer_instance
def vhs (x:q11T)(k:q11T⊕q11T→Option Res):Option Res:=
 let t0:=(x.1,x.2.1,x.2.2.1,x.2.2.2.1,x.2.2.2.2.1,x.2.2.2.2.2.1,(IntKind.wrap .i64 (x.2.2.2.2.2.2+(1:Int))))
 bif (decide (x.2.2.2.2.2.2<x.2.2.2.2.2.1))then
 if 0≤x.2.2.2.2.2.2∧x.2.2.2.2.2.2<(x.2.2.2.2.1.length:Int)then
 bif (van ((rd (Ty.zero tVersion) x.2.2.2.2.1 x.2.2.2.2.2.2).1) x.2.1)then
 bif (decide ((rd (Ty.zero tVersion) x.2.2.2.2.1 x.2.2.2.2.2.2).2.2.2≤x.2.2.1))then
 bif (decide (x.2.2.2.1<0))then
 k (.inl (x.1,x.2.1,x.2.2.1,x.2.2.2.2.2.2,x.2.2.2.2.1,x.2.2.2.2.2.1,(IntKind.wrap .i64 (x.2.2.2.2.2.2+1))))
 else
 if 0≤x.2.2.2.1∧x.2.2.2.1<(x.1.length:Int)then
 bif (decide ((rd (Ty.zero tVersion) x.2.2.2.2.1 x.2.2.2.2.2.2).2.2.2>(rd (Ty.zero tVersion) x.1 x.2.2.2.1).2.2.2))then
 k (.inl (x.1,x.2.1,x.2.2.1,x.2.2.2.2.2.2,x.2.2.2.2.1,x.2.2.2.2.2.1,(IntKind.wrap .i64 (x.2.2.2.2.2.2+1))))
 else
 k (.inl t0)
 else none
 else
 k (.inl t0)
 else
 k (.inl t0)
 else none
 else
 k (.inr (x.1,x.2.1,x.2.2.1,x.2.2.2.1,x.2.2.2.2.1,x.2.2.2.2.2.1,x.2.2.2.2.2.2))
instance n16n_bp0 (x:q11T):ParC (vhs x):=by unfold vhs;(try dsimp only);infer_instance
def vz7 (a0:(List vaa))(a1:ByteArray)(a2:Int)(k:Int→Option Res):Option Res:=
 vae vhs Fuel (a0,a1,a2,(-1:Int),a0,(a0.length:Int),0) (fun z1=>
 k z1.2.2.2.1)
def vmn:=shut vz7
theorem v55:vmn=vz7:=vaj _
instance n16n_p (a0:(List vaa))(a1:ByteArray)(a2:Int):ParC (vmn a0 a1 a2):=by rw [v55];unfold vz7;(try dsimp only);infer_instance
def vh1 (x:q30T)(k:q30T⊕q30T→Option Res):Option Res:=
 bif (decide (x.2.2.2.1<x.2.2.1))then
 if 0≤x.2.2.2.1∧x.2.2.2.1<(x.2.2.2.2.length:Int)then
 bif (van ((x.2.2.2.2.getD x.2.2.2.1.toNat (Ty.zero tVersion)).1) x.1)then
 k (.inl (x.1,(IntKind.wrap .i64 (x.2.1+1)),x.2.2.1,(IntKind.wrap .i64 (x.2.2.2.1+1)),x.2.2.2.2))
 else
 k (.inl (x.1,x.2.1,x.2.2.1,(IntKind.wrap .i64 (x.2.2.2.1+1)),x.2.2.2.2))
 else none
 else
 k (.inr (x.1,x.2.1,x.2.2.1,x.2.2.2.1,x.2.2.2.2))
instance n11n_bp0 (x:q30T):ParC (vh1 x):=by unfold vh1;(try dsimp only);infer_instance
def v0o (a0:ByteArray)(a1:(List vaa))(k:(Int×(List vaa))→Option Res):Option Res:=
 vae vh1 Fuel (a0,0,(a1.length:Int),0,a1) (fun z1=>
 k (z1.2.1,z1.2.2.2.2))
def vrt:=shut v0o
theorem v54:vrt=v0o:=vaj _
instance n11n_p (a0:ByteArray)(a1:(List vaa)):ParC (vrt a0 a1):=by rw [v54];unfold v0o;(try dsimp only);infer_instance
def vb4 (x:q14T)(k:q14T→Option Res):Option Res:=
 let xh:=x.2.2.2.2.2.2.2.2
 bif x.2.2.2.2.2.1 then
 if xh.2.2.length+[(x.2.2.2.2.2.2.1,(x.2.2.2.2.2.2.2.1,(xh.1,xh.2.1)))].length≤VE.maxLen then
 k (x.1,x.2.1,x.2.2.1,x.2.2.2.1,x.2.2.2.2.1,x.2.2.2.2.2.1,x.2.2.2.2.2.2.1,x.2.2.2.2.2.2.2.1,xh.1,xh.2.1,(xh.2.2++[(x.2.2.2.2.2.2.1,(x.2.2.2.2.2.2.2.1,(xh.1,xh.2.1)))]))
 else none
 else
 k (x.1,x.2.1,x.2.2.1,x.2.2.2.1,x.2.2.2.2.1,x.2.2.2.2.2.1,x.2.2.2.2.2.2.1,x.2.2.2.2.2.2.2.1,xh.1,xh.2.1,xh.2.2)
instance n10n_jp15000006 (x:q14T):ParC (vb4 x):=by unfold vb4;(try dsimp only);infer_instance
def vht (x:q13T)(k:q13T⊕q13T→Option Res):Option Res:=
 let t0:=(rd (Ty.zero tVersion) x.2.2.1 x.2.2.2.2.1)
 bif (decide (x.2.2.2.2.1<x.2.2.2.1))then
 if 0≤x.2.2.2.2.1∧x.2.2.2.2.1<(x.2.2.1.length:Int)then
 bif (decide (t0.2.2.2>x.2.1))then
 vb4 (x.1,x.2.1,x.2.2.1,x.2.2.2.1,x.2.2.2.2.1,true,t0.1,t0.2.1,t0.2.2.1,t0.2.2.2,x.2.2.2.2.2) (fun z3=>
 k (.inl (z3.1,z3.2.1,z3.2.2.1,z3.2.2.2.1,(IntKind.wrap .i64 (z3.2.2.2.2.1+1)),z3.2.2.2.2.2.2.2.2.2.2)))
 else
 vmn x.1 (t0.1) x.2.1 (fun y4=>
 vb4 (x.1,x.2.1,x.2.2.1,x.2.2.2.1,x.2.2.2.2.1,(y4==x.2.2.2.2.1),t0.1,t0.2.1,t0.2.2.1,t0.2.2.2,x.2.2.2.2.2) (fun z5=>
 k (.inl (z5.1,z5.2.1,z5.2.2.1,z5.2.2.2.1,(IntKind.wrap .i64 (z5.2.2.2.2.1+1)),z5.2.2.2.2.2.2.2.2.2.2))))
 else none
 else
 k (.inr (x.1,x.2.1,x.2.2.1,x.2.2.2.1,x.2.2.2.2.1,x.2.2.2.2.2))
instance n10n_bp0 (x:q13T):ParC (vht x):=by unfold vht;(try dsimp only);infer_instance
def vil (x:q39T)(k:q39T⊕q39T→Option Res):Option Res:=
 let t0:=(x.2.2.2.2.getD x.2.2.1.toNat (Ty.zero tVersion))
 bif (decide (x.2.2.1<x.2.1))then
 if 0≤x.2.2.1∧x.2.2.1<(x.2.2.2.2.length:Int)then
 bif (decide (t0.2.2.2>x.1))then
 if x.2.2.2.1.length+[t0].length≤VE.maxLen then
 k (.inl (x.1,x.2.1,(IntKind.wrap .i64 (x.2.2.1+1)),(x.2.2.2.1++[t0]),x.2.2.2.2))
 else none
 else
 bif (!t0.2.2.1)then
 if x.2.2.2.1.length+[t0].length≤VE.maxLen then
 k (.inl (x.1,x.2.1,(IntKind.wrap .i64 (x.2.2.1+1)),(x.2.2.2.1++[t0]),x.2.2.2.2))
 else none
 else
 vrt (t0.1) x.2.2.2.2 (fun y6=>
 bif (decide (y6.1>1))then
 if x.2.2.2.1.length+[t0].length≤VE.maxLen then
 k (.inl (x.1,x.2.1,(IntKind.wrap .i64 (x.2.2.1+1)),(x.2.2.2.1++[t0]),y6.2))
 else none
 else
 k (.inl (x.1,x.2.1,(IntKind.wrap .i64 (x.2.2.1+1)),x.2.2.2.1,y6.2)))
 else none
 else
 k (.inr (x.1,x.2.1,x.2.2.1,x.2.2.2.1,x.2.2.2.2))
instance n10n_bp2 (x:q39T):ParC (vil x):=by unfold vil;(try dsimp only);infer_instance
def v0p (a0:(List vaa))(a1:Int)(k:(List vaa)→Option Res):Option Res:=
 vae vht Fuel (a0,a1,a0,(a0.length:Int),0,([]:List vaa)) (fun z1=>
 vae vil Fuel (z1.2.1,(z1.2.2.2.2.2.length:Int),0,([]:List vaa),z1.2.2.2.2.2) (fun z2=>
 k z2.2.2.2.1))
def vhp:=shut v0p
theorem v40:vhp=v0p:=vaj _
instance n10n_p (a0:(List vaa))(a1:Int):ParC (vhp a0 a1):=by rw [v40];unfold v0p;(try dsimp only);infer_instance
def v3w  (k:(ByteArray×ByteArray)→Option Res):Option Res:=
 k ((⟨#[97]⟩:ByteArray),(⟨#[122,122,122]⟩:ByteArray))
def vp1:=shut v3w
theorem v41:vp1=v3w:=vaj _
instance n19n_p  : ParC (vp1 ):=by rw [v41];unfold v3w;(try dsimp only);infer_instance
def vve (a0:(List ByteArray))(k:(List ByteArray)→Option Res):Option Res:=
 if a0.length≤1000000000 then
 k (vgq a0)
 else none
def vro:=shut vve
theorem v6k:vro=vve:=vaj _
instance n27n_p (a0:(List ByteArray)):ParC (vro a0):=by rw [v6k];unfold vve;(try dsimp only);infer_instance
def vgj (x:(Int×Nat×Int×(List ByteArray)))(k:(Int×Nat×Int×(List ByteArray))⊕(Int×Nat×Int×(List ByteArray))→Option Res):Option Res:=
 bif (decide (x.2.2.1<((x.2.2.2.length:Int)-((x.2.1:Nat):Int))))then
 if 0≤x.2.2.1∧x.2.2.1<(x.2.2.2.length:Int)-((x.2.1:Nat):Int)then
 if 0≤(IntKind.wrap .i64 (x.2.2.1-1))∧(IntKind.wrap .i64 (x.2.2.1-1))<(x.2.2.2.length:Int)-((x.2.1:Nat):Int)then
 bif (!(van (x.2.2.2.getD (x.2.1+x.2.2.1.toNat) (Ty.zero .str)) (x.2.2.2.getD (x.2.1+(IntKind.wrap .i64 (x.2.2.1-1)).toNat) (Ty.zero .str))))then
 if 0≤x.2.2.1∧x.2.2.1<(x.2.2.2.length:Int)-((x.2.1:Nat):Int)then
 if 0≤x.1∧x.1<(x.2.2.2.length:Int)then
 k (.inl ((IntKind.wrap .i64 (x.1+1)),x.2.1,(IntKind.wrap .i64 (x.2.2.1+1)),(x.2.2.2.set x.1.toNat (x.2.2.2.getD (x.2.1+x.2.2.1.toNat) (Ty.zero .str)))))
 else none
 else none
 else
 k (.inl (x.1,x.2.1,(IntKind.wrap .i64 (x.2.2.1+1)),x.2.2.2))
 else none
 else none
 else
 k (.inr (x.1,x.2.1,x.2.2.1,x.2.2.2))
instance n23n_bp2 (x:(Int×Nat×Int×(List ByteArray))):ParC (vgj x):=by unfold vgj;(try dsimp only);infer_instance
def vfm (x:q31T)(k:q31T⊕(q31T⊕(Int×(List ByteArray)))→Option Res):Option Res:=
 bif (decide (x.1<(x.2.1.length:Int)))then
 if 0≤x.1∧x.1<(x.2.1.length:Int)then
 if 0≤(IntKind.wrap .i64 (x.1-1))∧(IntKind.wrap .i64 (x.1-1))<(x.2.1.length:Int)then
 bif (van (x.2.1.getD x.1.toNat (Ty.zero .str)) (x.2.1.getD (IntKind.wrap .i64 (x.1-1)).toNat (Ty.zero .str)))then
 if 0≤x.1∧x.1≤(x.2.1.length:Int)then
 vae vgj Fuel (x.1,x.1.toNat,1,x.2.1) (fun z3=>
 if 0≤z3.1∧z3.1≤(z3.2.2.2.length:Int)then
 if 0≤z3.1∧z3.1≤((z3.2.2.2.take z3.1.toNat++List.replicate (z3.2.2.2.length-z3.1.toNat) (Ty.zero .str)).length:Int)then
 k (.inr (.inr (z3.1,((z3.2.2.2.take z3.1.toNat++List.replicate (z3.2.2.2.length-z3.1.toNat) (Ty.zero .str)).take z3.1.toNat))))
 else none
 else none)
 else none
 else
 k (.inl ((IntKind.wrap .i64 (x.1+1)),x.2.1,x.2.2))
 else none
 else none
 else
 k (.inr (.inl (x.1,x.2.1,x.2.2)))
instance n23n_bp0 (x:q31T):ParC (vfm x):=by unfold vfm;(try dsimp only);infer_instance
def v0q (a0:(List ByteArray))(k:((List ByteArray)⊕(List ByteArray))→Option Res):Option Res:=
 bif (decide ((a0.length:Int)<(2:Int)))then
 k (.inl a0)
 else
 vae vfm Fuel (1,a0,([]:List ByteArray)) (Sum.elim (fun z1=>
 k (.inl z1.2.1)) (fun z2=>
 k (.inr z2.2)))
def vn4:=shut v0q
theorem v5o:vn4=v0q:=vaj _
instance n23n_p (a0:(List ByteArray)):ParC (vn4 a0):=by rw [v5o];unfold v0q;(try dsimp only);infer_instance
def via (x:q17T)(k:q17T⊕q17T→Option Res):Option Res:=
 bif (decide (x.2.2.1<x.2.1))then
 if 0≤x.2.2.1∧x.2.2.1<(x.1.length:Int)then
 if x.2.2.2.length+[(rd (Ty.zero tVersion) x.1 x.2.2.1).1].length≤VE.maxLen then
 k (.inl (x.1,x.2.1,(IntKind.wrap .i64 (x.2.2.1+(1:Int))),(x.2.2.2++[(rd (Ty.zero tVersion) x.1 x.2.2.1).1])))
 else none
 else none
 else
 k (.inr (x.1,x.2.1,x.2.2.1,x.2.2.2))
instance n15n_bp0 (x:q17T):ParC (via x):=by unfold via;(try dsimp only);infer_instance
def vyi (a0:(List vaa))(k:(List ByteArray)→Option Res):Option Res:=
 vae via Fuel (a0,(a0.length:Int),0,([]:List ByteArray)) (fun z1=>
 vro z1.2.2.2 (fun y2=>
 vn4 y2 (Sum.elim (fun y3=>
 k y3) (fun y4=>
 k y4))))
def vrf:=shut vyi
theorem v50:vrf=vyi:=vaj _
instance n15n_p (a0:(List vaa)):ParC (vrf a0):=by rw [v50];unfold vyi;(try dsimp only);infer_instance
def vzf (a0:(List vaa))(a1:ByteArray)(a2:Int)(k:(ByteArray×Bool)→Option Res):Option Res:=
 vmn a0 a1 a2 (fun y1=>
 bif (decide (y1<0))then
 k ((⟨#[]⟩:ByteArray),false)
 else
 if 0≤y1∧y1<(a0.length:Int)then
 bif (rd (Ty.zero tVersion) a0 y1).2.2.1 then
 k ((⟨#[]⟩:ByteArray),false)
 else
 if 0≤y1∧y1<(a0.length:Int)then
 k ((rd (Ty.zero tVersion) a0 y1).2.1,true)
 else none
 else none)
def vtz:=shut vzf
theorem v52:vtz=vzf:=vaj _
instance n09n_p (a0:(List vaa))(a1:ByteArray)(a2:Int):ParC (vtz a0 a1 a2):=by rw [v52];unfold vzf;(try dsimp only);infer_instance
def v0i (a0:vam)(a1:ByteArray)(k:Bool→Option Res):Option Res:=
 bif (!(vab a1 a0.1))then
 k ((vab a1 a0.2)||(van a1 a0.2))
 else
 k false
def vri:=shut v0i
theorem v4t:vri=v0i:=vaj _
instance n04n_p (a0:vam)(a1:ByteArray):ParC (vri a0 a1):=by rw [v4t];unfold v0i;(try dsimp only);infer_instance
def vgr (x:q21T)(k:q21T⊕q21T→Option Res):Option Res:=
 let t0:=(x.2.2.2.2.2.2.2.getD x.2.2.2.1.toNat (Ty.zero .str))
 bif (decide (x.2.2.2.1<x.2.2.1))then
 if 0≤x.2.2.2.1∧x.2.2.2.1<(x.2.2.2.2.2.2.2.length:Int)then
 vtz x.1 t0 x.2.1 (fun y3=>
 bif y3.2 then
 vri (x.2.2.2.2.1,x.2.2.2.2.2.1) t0 (fun y4=>
 bif y4 then
 if x.2.2.2.2.2.2.1.length+[(t0,y3.1)].length≤VE.maxLen then
 k (.inl (x.1,x.2.1,x.2.2.1,(IntKind.wrap .i64 (x.2.2.2.1+(1:Int))),x.2.2.2.2.1,x.2.2.2.2.2.1,(x.2.2.2.2.2.2.1++[(t0,y3.1)]),x.2.2.2.2.2.2.2))
 else none
 else
 k (.inl (x.1,x.2.1,x.2.2.1,(IntKind.wrap .i64 (x.2.2.2.1+1)),x.2.2.2.2.1,x.2.2.2.2.2.1,x.2.2.2.2.2.2.1,x.2.2.2.2.2.2.2)))
 else
 k (.inl (x.1,x.2.1,x.2.2.1,(IntKind.wrap .i64 (x.2.2.2.1+1)),x.2.2.2.2.1,x.2.2.2.2.2.1,x.2.2.2.2.2.2.1,x.2.2.2.2.2.2.2)))
 else none
 else
 k (.inr (x.1,x.2.1,x.2.2.1,x.2.2.2.1,x.2.2.2.2.1,x.2.2.2.2.2.1,x.2.2.2.2.2.2.1,x.2.2.2.2.2.2.2))
instance n08n_bp0 (x:q21T):ParC (vgr x):=by unfold vgr;(try dsimp only);infer_instance
def v0k (a0:(List vaa))(a1:vam)(a2:Int)(k:(List vam)→Option Res):Option Res:=
 vrf a0 (fun y1=>
 vae vgr Fuel (a0,a2,(y1.length:Int),0,a1.1,a1.2,([]:List vam),y1) (fun z2=>
 k z2.2.2.2.2.2.2.1))
def vjx:=shut v0k
theorem v4n:vjx=v0k:=vaj _
instance n08n_p (a0:(List vaa))(a1:vam)(a2:Int):ParC (vjx a0 a1 a2):=by rw [v4n];unfold v0k;(try dsimp only);infer_instance
def vit (x:q6T)(k:q6T⊕(q6T⊕q6T)→Option Res):Option Res:=
 bif (decide (x.2.2.2<(x.1.length:Int)))then
 if 0≤x.2.2.2∧x.2.2.2<(x.1.length:Int)then
 if 0≤x.2.2.2∧x.2.2.2<(x.2.1.length:Int)then
 bif (!(Ty.eqB tRange (rd (Ty.zero tRange) x.1 x.2.2.2) (rd (Ty.zero tRange) x.2.1 x.2.2.2)))then
 k (.inr (.inl (x.1,x.2.1,false,x.2.2.2)))
 else
 k (.inl (x.1,x.2.1,x.2.2.1,(IntKind.wrap .i64 (x.2.2.2+1))))
 else none
 else none
 else
 k (.inr (.inr (x.1,x.2.1,x.2.2.1,x.2.2.2)))
instance n21n_bp0 (x:q6T):ParC (vit x):=by unfold vit;(try dsimp only);infer_instance
def v0d (a0:(List vam))(a1:(List vam))(k:Bool→Option Res):Option Res:=
 bif ((a0.length:Int) != (a1.length:Int))then
 k false
 else
 vae vit Fuel (a0,a1,false,0) (Sum.elim (fun z1=>
 k z1.2.2.1) (fun _=>
 k true))
def vml:=shut v0d
theorem v4c:vml=v0d:=vaj _
instance n21n_p (a0:(List vam))(a1:(List vam)):ParC (vml a0 a1):=by rw [v4c];unfold v0d;(try dsimp only);infer_instance
def vj8 (x:(Int×Int×Int×(List Int)))(k:(Int×Int×Int×(List Int))⊕(Int×Int×Int×(List Int))→Option Res):Option Res:=
 bif (decide (x.2.2.1<x.1))then
 if 0≤x.2.2.1∧x.2.2.1<(x.2.2.2.length:Int)then
 k (.inl (x.1,x.2.1,(IntKind.wrap .i64 (x.2.2.1+1)),(x.2.2.2.set x.2.2.1.toNat x.2.1)))
 else none
 else
 k (.inr (x.1,x.2.1,x.2.2.1,x.2.2.2))
instance n42n_bp0 (x:(Int×Int×Int×(List Int))):ParC (vj8 x):=by unfold vj8;(try dsimp only);infer_instance
def vzb (a0:Int)(a1:Int)(k:ByteArray→Option Res):Option Res:=
 if 0≤a0∧a0≤a0∧a0≤(VE.maxLen:Int)then
 vae vj8 Fuel (a0,a1,0,(List.replicate a0.toNat (Ty.zero (.int .u8)))) (fun z1=>
 k (vmb z1.2.2.2))
 else none
def vt3:=shut vzb
theorem v6r:vt3=vzb:=vaj _
instance n42n_p (a0:Int)(a1:Int):ParC (vt3 a0 a1):=by rw [v6r];unfold vzb;(try dsimp only);infer_instance
def vyt (a0:(List Int))(a1:Int)(a2:Int)(k:q3T→Option Res):Option Res:=
 vev (10:Int) a0 a1 a2 (fun y1=>
 vev (60:Int) y1.2.1 y1.2.2.1 y1.2.2.2 (fun y2=>
 vqc y2.2.1 y2.2.2.1 y2.2.2.2 (fun y3=>
 if([]:List vaa).length+y3.2.2.2.length≤VE.maxLen then
 bif (decide (((([]:List vaa)++y3.2.2.2).length:Int)>(0:Int)))then
 if((([]:List vaa)++y3.2.2.2).length:Int)=0 then none else
 bif (y1.1==(0:Int))then
 if 0≤(y2.1.tmod (4:Int))∧(y2.1.tmod (4:Int))<([(0:Int),(9999:Int),(10000:Int),(3:Int)].length:Int)then
 if 0≤(y2.1.tmod ((([]:List vaa)++y3.2.2.2).length:Int))∧(y2.1.tmod ((([]:List vaa)++y3.2.2.2).length:Int))<((([]:List vaa)++y3.2.2.2).length:Int)then
 k (y3.1,y3.2.1,y3.2.2.1,((([]:List vaa)++y3.2.2.2).set (y2.1.tmod ((([]:List vaa)++y3.2.2.2).length:Int)).toNat (((([]:List vaa)++y3.2.2.2).getD (y2.1.tmod ((([]:List vaa)++y3.2.2.2).length:Int)).toNat (Ty.zero tVersion)).1,(((([]:List vaa)++y3.2.2.2).getD (y2.1.tmod ((([]:List vaa)++y3.2.2.2).length:Int)).toNat (Ty.zero tVersion)).2.1,(((([]:List vaa)++y3.2.2.2).getD (y2.1.tmod ((([]:List vaa)++y3.2.2.2).length:Int)).toNat (Ty.zero tVersion)).2.2.1,([(0:Int),(9999:Int),(10000:Int),(3:Int)].getD (y2.1.tmod (4:Int)).toNat (Ty.zero (.i))))))))
 else none
 else none
 else
 bif (y1.1==(1:Int))then
 if 0≤(y2.1.tmod (3:Int))∧(y2.1.tmod (3:Int))<([(⟨#[]⟩:ByteArray),(⟨#[65]⟩:ByteArray),(⟨#[122]⟩:ByteArray)].length:Int)then
 if 0≤(y2.1.tmod ((([]:List vaa)++y3.2.2.2).length:Int))∧(y2.1.tmod ((([]:List vaa)++y3.2.2.2).length:Int))<((([]:List vaa)++y3.2.2.2).length:Int)then
 k (y3.1,y3.2.1,y3.2.2.1,((([]:List vaa)++y3.2.2.2).set (y2.1.tmod ((([]:List vaa)++y3.2.2.2).length:Int)).toNat (([(⟨#[]⟩:ByteArray),(⟨#[65]⟩:ByteArray),(⟨#[122]⟩:ByteArray)].getD (y2.1.tmod (3:Int)).toNat (Ty.zero .str)),((([]:List vaa)++y3.2.2.2).getD (y2.1.tmod ((([]:List vaa)++y3.2.2.2).length:Int)).toNat (Ty.zero tVersion)).2)))
 else none
 else none
 else
 bif (y1.1==(2:Int))then
 if 0≤(y2.1.tmod ((([]:List vaa)++y3.2.2.2).length:Int))∧(y2.1.tmod ((([]:List vaa)++y3.2.2.2).length:Int))<((([]:List vaa)++y3.2.2.2).length:Int)then
 k (y3.1,y3.2.1,y3.2.2.1,((([]:List vaa)++y3.2.2.2).set (y2.1.tmod ((([]:List vaa)++y3.2.2.2).length:Int)).toNat (((([]:List vaa)++y3.2.2.2).getD (y2.1.tmod ((([]:List vaa)++y3.2.2.2).length:Int)).toNat (Ty.zero tVersion)).1,(((([]:List vaa)++y3.2.2.2).getD (y2.1.tmod ((([]:List vaa)++y3.2.2.2).length:Int)).toNat (Ty.zero tVersion)).2.1,(true,((([]:List vaa)++y3.2.2.2).getD (y2.1.tmod ((([]:List vaa)++y3.2.2.2).length:Int)).toNat (Ty.zero tVersion)).2.2.2)))))
 else none
 else
 bif (y1.1==(3:Int))then
 vt3 (13:Int) (97:Int) (fun y4=>
 if 0≤(y2.1.tmod ((([]:List vaa)++y3.2.2.2).length:Int))∧(y2.1.tmod ((([]:List vaa)++y3.2.2.2).length:Int))<((([]:List vaa)++y3.2.2.2).length:Int)then
 k (y3.1,y3.2.1,y3.2.2.1,((([]:List vaa)++y3.2.2.2).set (y2.1.tmod ((([]:List vaa)++y3.2.2.2).length:Int)).toNat (((([]:List vaa)++y3.2.2.2).getD (y2.1.tmod ((([]:List vaa)++y3.2.2.2).length:Int)).toNat (Ty.zero tVersion)).1,(y4,((([]:List vaa)++y3.2.2.2).getD (y2.1.tmod ((([]:List vaa)++y3.2.2.2).length:Int)).toNat (Ty.zero tVersion)).2.2))))
 else none)
 else
 k (y3.1,y3.2.1,y3.2.2.1,(([]:List vaa)++y3.2.2.2))
 else
 k (y3.1,y3.2.1,y3.2.2.1,(([]:List vaa)++y3.2.2.2))
 else none)))
def vm4:=shut vyt
theorem v2v:vm4=vyt:=vaj _
instance n51n_p (a0:(List Int))(a1:Int)(a2:Int):ParC (vm4 a0 a1 a2):=by rw [v2v];unfold vyt;(try dsimp only);exact⟨((n40n_p _ _ _ _).p.bind fun y1=>((n40n_p _ _ _ _).p.bind fun y2=>((n55n_p _ _ _).p.bind fun y3=>(vco (va7 (vco vbs (va7 (vco (vco (vao _) vbs) vbs) (va7 (vco (vco (vao _) vbs) vbs) (va7 (vco (vao _) vbs) (va7 ((n42n_p _ _).p.bind fun y4=>(vco (vao _) vbs)) (vao _)))))) (vao _)) vbs))))⟩
def v0y (a0:(List Int))(k:(Int×(List vaa))→Option Res):Option Res:=
 vlk a0 (fun y1=>
 vev (10:Int) y1.1 y1.2.1 y1.2.2 (fun y2=>
 vm4 y2.2.1 y2.2.2.1 y2.2.2.2 (fun y3=>
 k (y2.1,y3.2.2.2))))
def vq9:=shut v0y
theorem v42:vq9=v0y:=vaj _
instance n31n_p (a0:(List Int)):ParC (vq9 a0):=by rw [v42];unfold v0y;(try dsimp only);infer_instance
def vid (x:q12T)(k:q12T⊕q12T→Option Res):Option Res:=
 let t0:=(IntKind.wrap .i64 (x.2.2.2.2+(1:Int)))
 bif (decide (x.2.2.2.2<(x.1.length:Int)))then
 if 0≤x.2.2.2.2∧x.2.2.2.2<(x.1.length:Int)then
 bif (van ((rd (Ty.zero tVersion) x.1 x.2.2.2.2).1) x.2.1)then
 if 0≤x.2.2.2.2∧x.2.2.2.2<(x.1.length:Int)then
 bif (decide ((rd (Ty.zero tVersion) x.1 x.2.2.2.2).2.2.2≤x.2.2.1))then
 bif (decide (x.2.2.2.1<0))then
 k (.inl (x.1,x.2.1,x.2.2.1,x.2.2.2.2,t0))
 else
 if 0≤x.2.2.2.2∧x.2.2.2.2<(x.1.length:Int)then
 if 0≤x.2.2.2.1∧x.2.2.2.1<(x.1.length:Int)then
 bif (decide ((rd (Ty.zero tVersion) x.1 x.2.2.2.2).2.2.2>(rd (Ty.zero tVersion) x.1 x.2.2.2.1).2.2.2))then
 k (.inl (x.1,x.2.1,x.2.2.1,x.2.2.2.2,t0))
 else
 k (.inl (x.1,x.2.1,x.2.2.1,x.2.2.2.1,t0))
 else none
 else none
 else
 k (.inl (x.1,x.2.1,x.2.2.1,x.2.2.2.1,t0))
 else none
 else
 k (.inl (x.1,x.2.1,x.2.2.1,x.2.2.2.1,t0))
 else none
 else
 k (.inr (x.1,x.2.1,x.2.2.1,x.2.2.2.1,x.2.2.2.2))
instance n52n_bp0 (x:q12T):ParC (vid x):=by unfold vid;(try dsimp only);infer_instance
def v0z (a0:(List vaa))(a1:ByteArray)(a2:Int)(k:Int→Option Res):Option Res:=
 vae vid Fuel (a0,a1,a2,(-1:Int),0) (fun z1=>
 k z1.2.2.2.1)
def vmj:=shut v0z
theorem v5q:vmj=v0z:=vaj _
instance n52n_p (a0:(List vaa))(a1:ByteArray)(a2:Int):ParC (vmj a0 a1 a2):=by rw [v5q];unfold v0z;(try dsimp only);infer_instance
def vb2 (x:q20T)(k:q20T→Option Res):Option Res:=
 bif x.2.2.2.1 then
 if 0≤x.2.2.1∧x.2.2.1<(x.1.length:Int)then
 if x.2.2.2.2.length+[(rd (Ty.zero tVersion) x.1 x.2.2.1)].length≤VE.maxLen then
 k (x.1,x.2.1,x.2.2.1,x.2.2.2.1,(x.2.2.2.2++[(rd (Ty.zero tVersion) x.1 x.2.2.1)]))
 else none
 else none
 else
 k (x.1,x.2.1,x.2.2.1,x.2.2.2.1,x.2.2.2.2)
instance n39n_jp15000007 (x:q20T):ParC (vb2 x):=by unfold vb2;(try dsimp only);infer_instance
def vi1 (x:q19T)(k:q19T⊕q19T→Option Res):Option Res:=
 bif (decide (x.2.2.1<(x.1.length:Int)))then
 if 0≤x.2.2.1∧x.2.2.1<(x.1.length:Int)then
 vmj x.1 ((rd (Ty.zero tVersion) x.1 x.2.2.1).1) x.2.1 (fun y3=>
 if 0≤x.2.2.1∧x.2.2.1<(x.1.length:Int)then
 bif (decide ((rd (Ty.zero tVersion) x.1 x.2.2.1).2.2.2>x.2.1))then
 vb2 (x.1,x.2.1,x.2.2.1,true,x.2.2.2) (fun z4=>
 k (.inl (z4.1,z4.2.1,(IntKind.wrap .i64 (z4.2.2.1+1)),z4.2.2.2.2)))
 else
 vb2 (x.1,x.2.1,x.2.2.1,(y3==x.2.2.1),x.2.2.2) (fun z5=>
 k (.inl (z5.1,z5.2.1,(IntKind.wrap .i64 (z5.2.2.1+1)),z5.2.2.2.2)))
 else none)
 else none
 else
 k (.inr (x.1,x.2.1,x.2.2.1,x.2.2.2))
instance n39n_bp0 (x:q19T):ParC (vi1 x):=by unfold vi1;(try dsimp only);infer_instance
def vbq (x:q38T)(k:q38T→Option Res):Option Res:=
 bif x.2.2.1 then
 if 0≤x.2.1∧x.2.1<(x.2.2.2.1.length:Int)then
 if x.2.2.2.2.length+[(x.2.2.2.1.getD x.2.1.toNat (Ty.zero tVersion))].length≤VE.maxLen then
 k (x.1,x.2.1,x.2.2.1,x.2.2.2.1,(x.2.2.2.2++[(x.2.2.2.1.getD x.2.1.toNat (Ty.zero tVersion))]))
 else none
 else none
 else
 k (x.1,x.2.1,x.2.2.1,x.2.2.2.1,x.2.2.2.2)
instance n39n_jp15000019 (x:q38T):ParC (vbq x):=by unfold vbq;(try dsimp only);infer_instance
def vix (x:q40T)(k:q40T⊕q40T→Option Res):Option Res:=
 bif (decide (x.2.2.2.1<(x.2.2.2.2.1.length:Int)))then
 if 0≤x.2.2.2.1∧x.2.2.2.1<(x.2.2.2.2.1.length:Int)then
 if 0≤x.2.1∧x.2.1<(x.2.2.2.2.1.length:Int)then
 bif (van ((x.2.2.2.2.1.getD x.2.2.2.1.toNat (Ty.zero tVersion)).1) ((x.2.2.2.2.1.getD x.2.1.toNat (Ty.zero tVersion)).1))then
 k (.inl (x.1,x.2.1,(IntKind.wrap .i64 (x.2.2.1+1)),(IntKind.wrap .i64 (x.2.2.2.1+1)),x.2.2.2.2.1,x.2.2.2.2.2))
 else
 k (.inl (x.1,x.2.1,x.2.2.1,(IntKind.wrap .i64 (x.2.2.2.1+1)),x.2.2.2.2.1,x.2.2.2.2.2))
 else none
 else none
 else
 k (.inr (x.1,x.2.1,x.2.2.1,x.2.2.2.1,x.2.2.2.2.1,x.2.2.2.2.2))
instance n39n_bp4 (x:q40T):ParC (vix x):=by unfold vix;(try dsimp only);infer_instance
def vgo (x:q37T)(k:q37T⊕q37T→Option Res):Option Res:=
 bif (decide (x.2.1<(x.2.2.1.length:Int)))then
 vae vix Fuel (x.1,x.2.1,0,0,x.2.2.1,x.2.2.2) (fun z6=>
 if 0≤z6.2.1∧z6.2.1<(z6.2.2.2.2.1.length:Int)then
 bif (!(z6.2.2.2.2.1.getD z6.2.1.toNat (Ty.zero tVersion)).2.2.1)then
 vbq (z6.1,z6.2.1,true,z6.2.2.2.2.1,z6.2.2.2.2.2) (fun z7=>
 k (.inl (z7.1,(IntKind.wrap .i64 (z7.2.1+1)),z7.2.2.2.1,z7.2.2.2.2)))
 else
 if 0≤z6.2.1∧z6.2.1<(z6.2.2.2.2.1.length:Int)then
 bif (decide ((z6.2.2.2.2.1.getD z6.2.1.toNat (Ty.zero tVersion)).2.2.2>z6.1))then
 vbq (z6.1,z6.2.1,true,z6.2.2.2.2.1,z6.2.2.2.2.2) (fun z8=>
 k (.inl (z8.1,(IntKind.wrap .i64 (z8.2.1+1)),z8.2.2.2.1,z8.2.2.2.2)))
 else
 vbq (z6.1,z6.2.1,(decide (z6.2.2.1>1)),z6.2.2.2.2.1,z6.2.2.2.2.2) (fun z9=>
 k (.inl (z9.1,(IntKind.wrap .i64 (z9.2.1+1)),z9.2.2.2.1,z9.2.2.2.2)))
 else none
 else none)
 else
 k (.inr (x.1,x.2.1,x.2.2.1,x.2.2.2))
instance n39n_bp2 (x:q37T):ParC (vgo x):=by unfold vgo;(try dsimp only);exact⟨(va7 ((vne (fun x=>(n39n_bp4 x).p) _ _).bind fun z6=>(vco (va7 ((n39n_jp15000019 _).p.bind fun z7=>(vao _)) (vco (va7 ((n39n_jp15000019 _).p.bind fun z8=>(vao _)) ((n39n_jp15000019 _).p.bind fun z9=>(vao _))) vbs)) vbs)) (vao _))⟩
def v0f (a0:(List vaa))(a1:Int)(k:(List vaa)→Option Res):Option Res:=
 vae vi1 Fuel (a0,a1,0,([]:List vaa)) (fun z1=>
 vae vgo Fuel (z1.2.1,0,z1.2.2.2,([]:List vaa)) (fun z2=>
 k z2.2.2.2))
def vmg:=shut v0f
theorem v5d:vmg=v0f:=vaj _
instance n39n_p (a0:(List vaa))(a1:Int):ParC (vmg a0 a1):=by rw [v5d];unfold v0f;(try dsimp only);infer_instance
def vzs (a0:(List Int))(k:q35T→Option Res):Option Res:=
 vlk a0 (fun y1=>
 vev (10:Int) y1.1 y1.2.1 y1.2.2 (fun y2=>
 vm4 y2.2.1 y2.2.2.1 y2.2.2.2 (fun y3=>
 vnq (2:Int) y3.1 y3.2.1 y3.2.2.1 (fun y4=>
 bif y4.1 then
 vmg y3.2.2.2 y2.1 (fun y5=>
 k (y2.1,y3.2.2.2,y5))
 else
 vm4 y4.2.1 y4.2.2.1 y4.2.2.2 (fun y6=>
 k (y2.1,y3.2.2.2,y6.2.2.2))))))
def vq8:=shut vzs
theorem v3o:vq8=vzs:=vaj _
instance n29n_p (a0:(List Int)):ParC (vq8 a0):=by rw [v3o];unfold vzs;(try dsimp only);infer_instance
def v0j (a0:(List Int))(a1:Int)(a2:Int)(k:q27T→Option Res):Option Res:=
 vm5 a0 a1 a2 (fun y1=>
 vnq (2:Int) y1.2.1 y1.2.2.1 y1.2.2.2 (fun y2=>
 bif y2.1 then
 k (y1.1,y1.1,y2.2.1,y2.2.2.1,y2.2.2.2)
 else
 vm5 y2.2.1 y2.2.2.1 y2.2.2.2 (fun y3=>
 bif (vab y3.1 y1.1)then
 k (y3.1,y1.1,y3.2.1,y3.2.2.1,y3.2.2.2)
 else
 k (y1.1,y3.1,y3.2.1,y3.2.2.1,y3.2.2.2))))
def vt7:=shut v0j
theorem v3b:vt7=v0j:=vaj _
instance n47n_p (a0:(List Int))(a1:Int)(a2:Int):ParC (vt7 a0 a1 a2):=by rw [v3b];unfold v0j;(try dsimp only);infer_instance
def vym (a0:(List Int))(k:q29T→Option Res):Option Res:=
 vlk a0 (fun y1=>
 vt7 y1.1 y1.2.1 y1.2.2 (fun y2=>
 vev (10:Int) y2.2.2.1 y2.2.2.2.1 y2.2.2.2.2 (fun y3=>
 vm4 y3.2.1 y3.2.2.1 y3.2.2.2 (fun y4=>
 k (y2.1,y2.2.1,y3.1,y4.2.2.2)))))
def vqt:=shut vym
theorem v28:vqt=vym:=vaj _
instance n30n_p (a0:(List Int)):ParC (vqt a0):=by rw [v28];unfold vym;(try dsimp only);infer_instance
def vy6 (a0:Int)(a1:Int)(a2:Int)(k:Bool→Option Res):Option Res:=
 bif (decide (a0≥a1))then
 k (decide (a0≤a2))
 else
 k false
def vjy:=shut vy6
theorem v3r:vjy=vy6:=vaj _
instance n17n_p (a0:Int)(a1:Int)(a2:Int):ParC (vjy a0 a1 a2):=by rw [v3r];unfold vy6;(try dsimp only);infer_instance
def vim (x:(ByteArray×Bool×Int))(k:(ByteArray×Bool×Int)⊕((ByteArray×Bool×Int)⊕(ByteArray×Bool×Int))→Option Res):Option Res:=
 bif (decide (x.2.2<(x.1.size:Int)))then
 if 0≤x.2.2∧x.2.2<(x.1.size:Int)then
 bif (decide ((bt x.1 x.2.2)<(97:Int)))then
 k (.inr (.inl (x.1,false,x.2.2)))
 else
 if 0≤x.2.2∧x.2.2<(x.1.size:Int)then
 bif (decide ((bt x.1 x.2.2)>(122:Int)))then
 k (.inr (.inl (x.1,false,x.2.2)))
 else
 k (.inl (x.1,x.2.1,(IntKind.wrap .i64 (x.2.2+1))))
 else none
 else none
 else
 k (.inr (.inr (x.1,x.2.1,x.2.2)))
instance n05n_bp0 (x:(ByteArray×Bool×Int)):ParC (vim x):=by unfold vim;(try dsimp only);infer_instance
def vzu (a0:ByteArray)(k:Bool→Option Res):Option Res:=
 vae vim Fuel (a0,false,0) (Sum.elim (fun z1=>
 k z1.2.1) (fun z2=>
 vjy (z2.1.size:Int) (1:Int) (3:Int) (fun y3=>
 k y3)))
def vo3:=shut vzu
theorem v4g:vo3=vzu:=vaj _
instance n05n_p (a0:ByteArray):ParC (vo3 a0):=by rw [v4g];unfold vzu;(try dsimp only);infer_instance
def vz6 (a0:ByteArray)(k:Bool→Option Res):Option Res:=
 k (!(van a0 a0))
def vur:=shut vz6
theorem v3u:vur=vz6:=vaj _
instance n03n_p (a0:ByteArray):ParC (vur a0):=by rw [v3u];unfold vz6;(try dsimp only);infer_instance
def vy1 (a0:ByteArray)(a1:ByteArray)(k:Int→Option Res):Option Res:=
 vur a0 (fun y1=>
 vur a1 (fun y2=>
 bif y1 then
 bif y2 then
 k (0:Int)
 else
 k (-1:Int)
 else
 bif y2 then
 k (1:Int)
 else
 bif (vab a0 a1)then
 k (-1:Int)
 else
 bif (!((vab a0 a1)||(van a0 a1)))then
 k (1:Int)
 else
 k (0:Int)))
def vvu:=shut vy1
theorem v5e:vvu=vy1:=vaj _
instance n01n_p (a0:ByteArray)(a1:ByteArray):ParC (vvu a0 a1):=by rw [v5e];unfold vy1;(try dsimp only);infer_instance
def vyj (a0:Int)(k:Bool→Option Res):Option Res:=
 k (a0 != a0)
def vvf:=shut vyj
theorem v37:vvf=vyj:=vaj _
instance n02n_p (a0:Int):ParC (vvf a0):=by rw [v37];unfold vyj;(try dsimp only);infer_instance
def vze (a0:Int)(a1:Int)(k:Int→Option Res):Option Res:=
 vvf a0 (fun y1=>
 vvf a1 (fun y2=>
 bif y1 then
 bif y2 then
 k (0:Int)
 else
 k (-1:Int)
 else
 bif y2 then
 k (1:Int)
 else
 bif (decide (a0<a1))then
 k (-1:Int)
 else
 bif (decide (a0>a1))then
 k (1:Int)
 else
 k (0:Int)))
def vvl:=shut vze
theorem v3y:vvl=vze:=vaj _
instance n00n_p (a0:Int)(a1:Int):ParC (vvl a0 a1):=by rw [v3y];unfold vze;(try dsimp only);infer_instance
def v0b (a0:vaa)(a1:vaa)(k:Int→Option Res):Option Res:=
 vvu a0.1 a1.1 (fun y1=>
 bif (y1 != (0:Int))then
 k y1
 else
 vvl a0.2.2.2 a1.2.2.2 (fun y2=>
 k y2))
def vmy:=shut v0b
theorem v49:vmy=v0b:=vaj _
instance n14n_p (a0:vaa)(a1:vaa):ParC (vmy a0 a1):=by rw [v49];unfold v0b;(try dsimp only);infer_instance
def vi4 (x:q10T)(k:q10T⊕(q10T⊕q10T)→Option Res):Option Res:=
 let t0:=(rd (Ty.zero tVersion) x.2.2.1 x.2.2.2.2)
 let t1:=(x.1,false,x.2.2.1,x.2.2.2.1,x.2.2.2.2)
 let t2:=(x.1,x.2.1,x.2.2.1,x.2.2.2.1,(IntKind.wrap .i64 (x.2.2.2.2+(1:Int))))
 let t3:=(IntKind.wrap .i64 (x.2.2.2.2-(1:Int)))
 bif (decide (x.2.2.2.2<x.2.2.2.1))then
 if 0≤x.2.2.2.2∧x.2.2.2.2<(x.2.2.1.length:Int)then
 vo3 (t0.1) (fun y3=>
 bif (!y3)then
 k (.inr (.inl t1))
 else
 bif (decide ((t0.2.1.size:Int)>(12:Int)))then
 k (.inr (.inl t1))
 else
 bif t0.2.2.1 then
 bif (!(van (t0.2.1) (⟨#[]⟩:ByteArray)))then
 k (.inr (.inl t1))
 else
 vjy (t0.2.2.2) (1:Int) (9999:Int) (fun y4=>
 bif (!y4)then
 k (.inr (.inl t1))
 else
 bif (decide (x.2.2.2.2>0))then
 if 0≤t3∧t3<(x.1.length:Int)then
 vmy (rd (Ty.zero tVersion) x.1 t3) t0 (fun y5=>
 bif (decide (y5≥0))then
 k (.inr (.inl t1))
 else
 k (.inl t2))
 else none
 else
 k (.inl t2))
 else
 vjy (t0.2.2.2) (1:Int) (9999:Int) (fun y6=>
 bif (!y6)then
 k (.inr (.inl t1))
 else
 bif (decide (x.2.2.2.2>0))then
 if 0≤t3∧t3<(x.1.length:Int)then
 vmy (rd (Ty.zero tVersion) x.1 t3) t0 (fun y7=>
 bif (decide (y7≥0))then
 k (.inr (.inl t1))
 else
 k (.inl t2))
 else none
 else
 k (.inl t2)))
 else none
 else
 k (.inr (.inr (x.1,x.2.1,x.2.2.1,x.2.2.2.1,x.2.2.2.2)))
instance n12n_bp0 (x:q10T):ParC (vi4 x):=by unfold vi4;(try dsimp only);exact⟨(va7 (vco ((n05n_p _).p.bind fun y3=>(va7 (vao _) (va7 (vao _) (va7 (va7 (vao _) ((n17n_p _ _ _).p.bind fun y4=>(va7 (vao _) (va7 (vco ((n14n_p _ _).p.bind fun y5=>(va7 (vao _) (vao _))) vbs) (vao _))))) ((n17n_p _ _ _).p.bind fun y6=>(va7 (vao _) (va7 (vco ((n14n_p _ _).p.bind fun y7=>(va7 (vao _) (vao _))) vbs) (vao _)))))))) vbs) (vao _))⟩
def vz4 (a0:(List vaa))(k:Bool→Option Res):Option Res:=
 vae vi4 Fuel (a0,false,a0,(a0.length:Int),0) (Sum.elim (fun z1=>
 k z1.2.1) (fun z2=>
 k (decide ((z2.1.length:Int)≤(120:Int)))))
def vpg:=shut vz4
theorem v3i:vpg=vz4:=vaj _
instance n12n_p (a0:(List vaa)):ParC (vpg a0):=by rw [v3i];unfold vz4;(try dsimp only);infer_instance
def vib (x:q7T)(k:q7T⊕(q7T⊕q7T)→Option Res):Option Res:=
 bif (decide (x.2.2.2<(x.1.length:Int)))then
 if 0≤x.2.2.2∧x.2.2.2<(x.1.length:Int)then
 if 0≤x.2.2.2∧x.2.2.2<(x.2.1.length:Int)then
 bif (!(Ty.eqB tVersion (rd (Ty.zero tVersion) x.1 x.2.2.2) (rd (Ty.zero tVersion) x.2.1 x.2.2.2)))then
 k (.inr (.inl (x.1,x.2.1,false,x.2.2.2)))
 else
 k (.inl (x.1,x.2.1,x.2.2.1,(IntKind.wrap .i64 (x.2.2.2+1))))
 else none
 else none
 else
 k (.inr (.inr (x.1,x.2.1,x.2.2.1,x.2.2.2)))
instance n22n_bp0 (x:q7T):ParC (vib x):=by unfold vib;(try dsimp only);infer_instance
def v0h (a0:(List vaa))(a1:(List vaa))(k:Bool→Option Res):Option Res:=
 bif ((a0.length:Int) != (a1.length:Int))then
 k false
 else
 vae vib Fuel (a0,a1,false,0) (Sum.elim (fun z1=>
 k z1.2.2.1) (fun _=>
 k true))
def vlm:=shut v0h
theorem v3e:vlm=v0h:=vaj _
instance n22n_p (a0:(List vaa))(a1:(List vaa)):ParC (vlm a0 a1):=by rw [v3e];unfold v0h;(try dsimp only);infer_instance
def v0t (a0:Int)(k:(List vaa)→Option Res):Option Res:=
 bif (decide (a0<0))then
 none
 else
 bif (decide ((IntKind.wrap .i64 (a0-(IntKind.wrap .i64 ((0:Int)-0))))>(0:Int)))then
 if 0≤(0:Int)∧(0:Int)≤(0:Int)∧(0:Int)≤0 then
 if 0≤(IntKind.wrap .i64 (a0-(IntKind.wrap .i64 ((0:Int)-0))))∧(IntKind.wrap .i64 (a0-(IntKind.wrap .i64 ((0:Int)-0))))≤(VE.maxLen:Int)then
 if 0≤(0:Int)∧(0:Int)≤((List.replicate (IntKind.wrap .i64 (a0-(IntKind.wrap .i64 ((0:Int)-0)))).toNat (Ty.zero tVersion)).length:Int)then
 k ((List.replicate (IntKind.wrap .i64 (a0-(IntKind.wrap .i64 ((0:Int)-0)))).toNat (Ty.zero tVersion)).take (0:Int).toNat)
 else none
 else none
 else none
 else
 k ([]:List vaa)
def vqh:=shut v0t
theorem v5l:vqh=v0t:=vaj _
instance n26n_p (a0:Int):ParC (vqh a0):=by rw [v5l];unfold v0t;(try dsimp only);infer_instance
def vii (x:q0T)(k:q0T⊕q0T→Option Res):Option Res:=
 bif (decide (x.2.2.2.2<x.2.2.2.1))then
 if 0≤x.2.2.2.2∧x.2.2.2.2<(x.2.2.1.length:Int)then
 bif (decide ((IntKind.wrap .i64 (x.2.1+((rd (Ty.zero (.slice tVersion)) x.2.2.1 x.2.2.2.2).length:Int)))<(0:Int)))then
 none
 else
 k (.inl (x.1,(IntKind.wrap .i64 (x.2.1+((rd (Ty.zero (.slice tVersion)) x.2.2.1 x.2.2.2.2).length:Int))),x.2.2.1,x.2.2.2.1,(IntKind.wrap .i64 (x.2.2.2.2+1))))
 else none
 else
 k (.inr (x.1,x.2.1,x.2.2.1,x.2.2.2.1,x.2.2.2.2))
instance n24n_bp0 (x:q0T):ParC (vii x):=by unfold vii;(try dsimp only);infer_instance
def vh2 (x:q1T)(k:q1T⊕q1T→Option Res):Option Res:=
 bif (decide (x.2.2.1<x.2.1))then
 if 0≤x.2.2.1∧x.2.2.1<(x.1.length:Int)then
 if x.2.2.2.length+(rd (Ty.zero (.slice tVersion)) x.1 x.2.2.1).length≤VE.maxLen then
 k (.inl (x.1,x.2.1,(IntKind.wrap .i64 (x.2.2.1+1)),(x.2.2.2++(rd (Ty.zero (.slice tVersion)) x.1 x.2.2.1))))
 else none
 else none
 else
 k (.inr (x.1,x.2.1,x.2.2.1,x.2.2.2))
instance n24n_bp2 (x:q1T):ParC (vh2 x):=by unfold vh2;(try dsimp only);infer_instance
def vzz (a0:(List (List vaa)))(k:(List vaa)→Option Res):Option Res:=
 vae vii Fuel (a0,0,a0,(a0.length:Int),0) (fun z1=>
 vqh z1.2.1 (fun y2=>
 vae vh2 Fuel (z1.1,(z1.1.length:Int),0,y2) (fun z3=>
 k z3.2.2.2)))
def vrd:=shut vzz
theorem v48:vrd=vzz:=vaj _
instance n24n_p (a0:(List (List vaa))):ParC (vrd a0):=by rw [v48];unfold vzz;(try dsimp only);infer_instance
def v6a  (k:(ByteArray×ByteArray)→Option Res):Option Res:=
 k ((⟨#[97]⟩:ByteArray),(⟨#[122,122,122]⟩:ByteArray))
def vpz:=shut v6a
theorem v4r:vpz=v6a:=vaj _
instance n13n_p  : ParC (vpz ):=by rw [v4r];unfold v6a;(try dsimp only);infer_instance
def vi3 (x:q5T)(k:q5T⊕(q5T⊕q5T)→Option Res):Option Res:=
 bif (decide (x.2.2.2.2<x.2.2.2.1))then
 if 0≤x.2.2.2.2∧x.2.2.2.2<(x.1.length:Int)then
 if 0≤x.2.2.2.2∧x.2.2.2.2<(x.2.1.length:Int)then
 bif (!(Ty.eqB tRange (rd (Ty.zero tRange) x.1 x.2.2.2.2) (rd (Ty.zero tRange) x.2.1 x.2.2.2.2)))then
 k (.inr (.inl (x.1,x.2.1,false,x.2.2.2.1,x.2.2.2.2)))
 else
 k (.inl (x.1,x.2.1,x.2.2.1,x.2.2.2.1,(IntKind.wrap .i64 (x.2.2.2.2+1))))
 else none
 else none
 else
 k (.inr (.inr (x.1,x.2.1,x.2.2.1,x.2.2.2.1,x.2.2.2.2)))
instance n25n_bp0 (x:q5T):ParC (vi3 x):=by unfold vi3;(try dsimp only);infer_instance
def vyx (a0:(List vam))(a1:(List vam))(k:Bool→Option Res):Option Res:=
 bif ((a0.length:Int) != (a1.length:Int))then
 k false
 else
 vae vi3 Fuel (a0,a1,false,(a0.length:Int),0) (Sum.elim (fun z1=>
 k z1.2.2.1) (fun _=>
 k true))
def vq0:=shut vyx
theorem v5m:vq0=vyx:=vaj _
instance n25n_p (a0:(List vam))(a1:(List vam)):ParC (vq0 a0 a1):=by rw [v5m];unfold vyx;(try dsimp only);infer_instance
def vzq (a0:Int)(a1:(List vaa))(a2:(List vaa))(k:q25T→Option Res):Option Res:=
 vpz  (fun y1=>
 vjx a1 y1 a0 (fun y2=>
 vpz  (fun y3=>
 vjx a2 y3 a0 (fun y4=>
 vq0 y2 y4 (fun y5=>
 k (y5,a1,a2))))))
def vqu:=shut vzq
theorem v35:vqu=vzq:=vaj _
instance n07n_p (a0:Int)(a1:(List vaa))(a2:(List vaa)):ParC (vqu a0 a1 a2):=by rw [v35];unfold vzq;(try dsimp only);infer_instance
def vke (x:q36T)(k:q36T⊕(q36T⊕q36T)→Option Res):Option Res:=
 bif (decide (x.2.2.2.1<x.2.2.1))then
 if 0≤x.2.2.2.1∧x.2.2.2.1<(x.2.2.2.2.2.2.length:Int)then
 bif (decide ((x.2.2.2.2.2.2.getD x.2.2.2.1.toNat (Ty.zero tVersion)).2.2.2>x.1))then
 vqu ((x.2.2.2.2.2.2.getD x.2.2.2.1.toNat (Ty.zero tVersion)).2.2.2) x.2.2.2.2.1 x.2.2.2.2.2.1 (fun y5=>
 bif (!y5.1)then
 k (.inr (.inl (x.1,false,x.2.2.1,x.2.2.2.1,y5.2.1,y5.2.2,x.2.2.2.2.2.2)))
 else
 k (.inl (x.1,x.2.1,x.2.2.1,(IntKind.wrap .i64 (x.2.2.2.1+1)),y5.2.1,y5.2.2,x.2.2.2.2.2.2)))
 else
 k (.inl (x.1,x.2.1,x.2.2.1,(IntKind.wrap .i64 (x.2.2.2.1+1)),x.2.2.2.2.1,x.2.2.2.2.2.1,x.2.2.2.2.2.2))
 else none
 else
 k (.inr (.inr (x.1,x.2.1,x.2.2.1,x.2.2.2.1,x.2.2.2.2.1,x.2.2.2.2.2.1,x.2.2.2.2.2.2)))
instance n06n_bp0 (x:q36T):ParC (vke x):=by unfold vke;(try dsimp only);infer_instance
def vyv (a0:(List vaa))(a1:(List vaa))(a2:Int)(k:Bool→Option Res):Option Res:=
 vrd [a0,a1] (fun y1=>
 vae vke Fuel (a2,false,(y1.length:Int),0,a0,a1,y1) (Sum.elim (fun z2=>
 k z2.2.1) (fun z3=>
 vqu z3.1 z3.2.2.2.2.1 z3.2.2.2.2.2.1 (fun y4=>
 k y4.1))))
def vmt:=shut vyv
theorem v2t:vmt=vyv:=vaj _
instance n06n_p (a0:(List vaa))(a1:(List vaa))(a2:Int):ParC (vmt a0 a1 a2):=by rw [v2t];unfold vyv;(try dsimp only);infer_instance
def v3m  (k:(ByteArray×ByteArray)→Option Res):Option Res:=
 k ((⟨#[97]⟩:ByteArray),(⟨#[122,122,122]⟩:ByteArray))
def vtm:=shut v3m
theorem v5h:vtm=v3m:=vaj _
instance n50n_p  : ParC (vtm ):=by rw [v5h];unfold v3m;(try dsimp only);infer_instance
def vz0 (a0:vam)(a1:ByteArray)(k:Bool→Option Res):Option Res:=
 bif (!(vab a1 a0.1))then
 k ((vab a1 a0.2)||(van a1 a0.2))
 else
 k false
def vq4:=shut vz0
theorem v6f:vq4=vz0:=vaj _
instance n33n_p (a0:vam)(a1:ByteArray):ParC (vq4 a0 a1):=by rw [v6f];unfold vz0;(try dsimp only);infer_instance
def vhn (x:q16T)(k:q16T⊕q16T→Option Res):Option Res:=
 bif (decide (x.2.2.2.1<(x.2.2.2.2.2.2.1.length:Int)))then
 if 0≤x.2.2.2.1∧x.2.2.2.1<(x.2.2.2.2.2.2.1.length:Int)then
 bif (vab (x.2.2.2.2.2.2.1.getD x.2.2.2.1.toNat (Ty.zero .str)) x.2.2.1)then
 if 0≤x.2.2.2.1∧x.2.2.2.1<(x.2.2.2.2.2.2.1.length:Int)then
 if x.2.2.2.2.2.2.2.length+[(x.2.2.2.2.2.2.1.getD x.2.2.2.1.toNat (Ty.zero .str))].length≤VE.maxLen then
 k (.inl (x.1,x.2.1,x.2.2.1,(IntKind.wrap .i64 (x.2.2.2.1+(1:Int))),x.2.2.2.2.1,x.2.2.2.2.2.1,x.2.2.2.2.2.2.1,(x.2.2.2.2.2.2.2++[(x.2.2.2.2.2.2.1.getD x.2.2.2.1.toNat (Ty.zero .str))])))
 else none
 else none
 else
 k (.inl (x.1,x.2.1,x.2.2.1,(IntKind.wrap .i64 (x.2.2.2.1+1)),x.2.2.2.2.1,x.2.2.2.2.2.1,x.2.2.2.2.2.2.1,x.2.2.2.2.2.2.2))
 else none
 else
 k (.inr (x.1,x.2.1,x.2.2.1,x.2.2.2.1,x.2.2.2.2.1,x.2.2.2.2.2.1,x.2.2.2.2.2.2.1,x.2.2.2.2.2.2.2))
instance n53n_bp2 (x:q16T):ParC (vhn x):=by unfold vhn;(try dsimp only);infer_instance
def vhx (x:q16T)(k:q16T⊕q16T→Option Res):Option Res:=
 bif (decide (x.2.2.2.1<(x.2.2.2.2.2.2.1.length:Int)))then
 if 0≤x.2.2.2.1∧x.2.2.2.1<(x.2.2.2.2.2.2.1.length:Int)then
 bif (!((vab (x.2.2.2.2.2.2.1.getD x.2.2.2.1.toNat (Ty.zero .str)) x.2.2.1)||(van (x.2.2.2.2.2.2.1.getD x.2.2.2.1.toNat (Ty.zero .str)) x.2.2.1)))then
 if 0≤x.2.2.2.1∧x.2.2.2.1<(x.2.2.2.2.2.2.1.length:Int)then
 if x.2.2.2.2.2.2.2.length+[(x.2.2.2.2.2.2.1.getD x.2.2.2.1.toNat (Ty.zero .str))].length≤VE.maxLen then
 k (.inl (x.1,x.2.1,x.2.2.1,(IntKind.wrap .i64 (x.2.2.2.1+(1:Int))),x.2.2.2.2.1,x.2.2.2.2.2.1,x.2.2.2.2.2.2.1,(x.2.2.2.2.2.2.2++[(x.2.2.2.2.2.2.1.getD x.2.2.2.1.toNat (Ty.zero .str))])))
 else none
 else none
 else
 k (.inl (x.1,x.2.1,x.2.2.1,(IntKind.wrap .i64 (x.2.2.2.1+1)),x.2.2.2.2.1,x.2.2.2.2.2.1,x.2.2.2.2.2.2.1,x.2.2.2.2.2.2.2))
 else none
 else
 k (.inr (x.1,x.2.1,x.2.2.1,x.2.2.2.1,x.2.2.2.2.1,x.2.2.2.2.2.1,x.2.2.2.2.2.2.1,x.2.2.2.2.2.2.2))
instance n53n_bp4 (x:q16T):ParC (vhx x):=by unfold vhx;(try dsimp only);infer_instance
def viy (x:q15T)(k:q15T⊕q15T→Option Res):Option Res:=
 bif (decide (x.2.1<(x.1.length:Int)))then
 if 0≤x.2.1∧x.2.1<(x.1.length:Int)then
 vq4 (x.2.2.1,x.2.2.2.1) ((rd (Ty.zero tVersion) x.1 x.2.1).1) (fun y2=>
 bif (!y2)then
 k (.inl (x.1,(IntKind.wrap .i64 (x.2.1+1)),x.2.2.1,x.2.2.2.1,x.2.2.2.2))
 else
 vae vhn Fuel (x.1,x.2.1,(rd (Ty.zero tVersion) x.1 x.2.1).1,0,x.2.2.1,x.2.2.2.1,x.2.2.2.2,([]:List ByteArray)) (fun z3=>
 if z3.2.2.2.2.2.2.2.length+[z3.2.2.1].length≤VE.maxLen then
 vae vhx Fuel (z3.1,z3.2.1,z3.2.2.1,0,z3.2.2.2.2.1,z3.2.2.2.2.2.1,z3.2.2.2.2.2.2.1,(z3.2.2.2.2.2.2.2++[z3.2.2.1])) (fun z4=>
 k (.inl (z4.1,(IntKind.wrap .i64 (z4.2.1+1)),z4.2.2.2.2.1,z4.2.2.2.2.2.1,z4.2.2.2.2.2.2.2)))
 else none))
 else none
 else
 k (.inr (x.1,x.2.1,x.2.2.1,x.2.2.2.1,x.2.2.2.2))
instance n53n_bp0 (x:q15T):ParC (viy x):=by unfold viy;(try dsimp only);infer_instance
def vzc (a0:(List vaa))(a1:vam)(k:(List ByteArray)→Option Res):Option Res:=
 vae viy Fuel (a0,0,a1.1,a1.2,([]:List ByteArray)) (fun z1=>
 k z1.2.2.2.2)
def vtp:=shut vzc
theorem v4h:vtp=vzc:=vaj _
instance n53n_p (a0:(List vaa))(a1:vam):ParC (vtp a0 a1):=by rw [v4h];unfold vzc;(try dsimp only);infer_instance
def vyk (a0:(List vaa))(a1:ByteArray)(a2:Int)(k:(ByteArray×Bool)→Option Res):Option Res:=
 vmj a0 a1 a2 (fun y1=>
 bif (decide (y1<0))then
 k ((⟨#[]⟩:ByteArray),false)
 else
 if 0≤y1∧y1<(a0.length:Int)then
 bif (rd (Ty.zero tVersion) a0 y1).2.2.1 then
 k ((⟨#[]⟩:ByteArray),false)
 else
 if 0≤y1∧y1<(a0.length:Int)then
 k ((rd (Ty.zero tVersion) a0 y1).2.1,true)
 else none
 else none)
def vu9:=shut vyk
theorem v56:vu9=vyk:=vaj _
instance n38n_p (a0:(List vaa))(a1:ByteArray)(a2:Int):ParC (vu9 a0 a1 a2):=by rw [v56];unfold vyk;(try dsimp only);infer_instance
def vh3 (x:q18T)(k:q18T⊕q18T→Option Res):Option Res:=
 bif (decide (x.2.2.1<(x.2.2.2.2.length:Int)))then
 if 0≤x.2.2.1∧x.2.2.1<(x.2.2.2.2.length:Int)then
 vu9 x.1 (x.2.2.2.2.getD x.2.2.1.toNat (Ty.zero .str)) x.2.1 (fun y3=>
 bif y3.2 then
 if 0≤x.2.2.1∧x.2.2.1<(x.2.2.2.2.length:Int)then
 if x.2.2.2.1.length+[((x.2.2.2.2.getD x.2.2.1.toNat (Ty.zero .str)),y3.1)].length≤VE.maxLen then
 k (.inl (x.1,x.2.1,(IntKind.wrap .i64 (x.2.2.1+(1:Int))),(x.2.2.2.1++[((x.2.2.2.2.getD x.2.2.1.toNat (Ty.zero .str)),y3.1)]),x.2.2.2.2))
 else none
 else none
 else
 k (.inl (x.1,x.2.1,(IntKind.wrap .i64 (x.2.2.1+1)),x.2.2.2.1,x.2.2.2.2)))
 else none
 else
 k (.inr (x.1,x.2.1,x.2.2.1,x.2.2.2.1,x.2.2.2.2))
instance n37n_bp0 (x:q18T):ParC (vh3 x):=by unfold vh3;(try dsimp only);infer_instance
def vyq (a0:(List vaa))(a1:vam)(a2:Int)(k:(List vam)→Option Res):Option Res:=
 vtp a0 a1 (fun y1=>
 vae vh3 Fuel (a0,a2,0,([]:List vam),y1) (fun z2=>
 k z2.2.2.2.1))
def vhl:=shut vyq
theorem v4l:vhl=vyq:=vaj _
instance n37n_p (a0:(List vaa))(a1:vam)(a2:Int):ParC (vhl a0 a1 a2):=by rw [v4l];unfold vyq;(try dsimp only);infer_instance
def vhr (x:q6T)(k:q6T⊕(q6T⊕q6T)→Option Res):Option Res:=
 bif (decide (x.2.2.2<(x.1.length:Int)))then
 if 0≤x.2.2.2∧x.2.2.2<(x.1.length:Int)then
 if 0≤x.2.2.2∧x.2.2.2<(x.2.1.length:Int)then
 bif (!(Ty.eqB tRange (rd (Ty.zero tRange) x.1 x.2.2.2) (rd (Ty.zero tRange) x.2.1 x.2.2.2)))then
 k (.inr (.inl (x.1,x.2.1,false,x.2.2.2)))
 else
 k (.inl (x.1,x.2.1,x.2.2.1,(IntKind.wrap .i64 (x.2.2.2+1))))
 else none
 else none
 else
 k (.inr (.inr (x.1,x.2.1,x.2.2.1,x.2.2.2)))
instance n54n_bp0 (x:q6T):ParC (vhr x):=by unfold vhr;(try dsimp only);infer_instance
def vy8 (a0:(List vam))(a1:(List vam))(k:Bool→Option Res):Option Res:=
 bif ((a0.length:Int) != (a1.length:Int))then
 k false
 else
 vae vhr Fuel (a0,a1,false,0) (Sum.elim (fun z1=>
 k z1.2.2.1) (fun _=>
 k true))
def voi:=shut vy8
theorem v6i:voi=vy8:=vaj _
instance n54n_p (a0:(List vam))(a1:(List vam)):ParC (voi a0 a1):=by rw [v6i];unfold vy8;(try dsimp only);infer_instance
def vb8 (x:q9T)(k:(q9T⊕q9T)→Option Res):Option Res:=
 bif (decide (x.2.2.2.2.2.1>x.2.2.1))then
 vhl x.1 x.2.2.2.2.2.2 x.2.2.2.2.2.1 (fun y11=>
 vhl x.2.1 x.2.2.2.2.2.2 x.2.2.2.2.2.1 (fun y12=>
 voi y11 y12 (fun y13=>
 bif (!y13)then
 k (.inl (x.1,x.2.1,x.2.2.1,false,x.2.2.2.2.1,x.2.2.2.2.2.1,x.2.2.2.2.2.2.1,x.2.2.2.2.2.2.2))
 else
 k (.inr (x.1,x.2.1,x.2.2.1,x.2.2.2.1,x.2.2.2.2.1,x.2.2.2.2.2.1,x.2.2.2.2.2.2.1,x.2.2.2.2.2.2.2)))))
 else
 k (.inr (x.1,x.2.1,x.2.2.1,x.2.2.2.1,x.2.2.2.2.1,x.2.2.2.2.2.1,x.2.2.2.2.2.2.1,x.2.2.2.2.2.2.2))
instance n36n_jp5000011 (x:q9T):ParC (vb8 x):=by unfold vb8;(try dsimp only);infer_instance
def vgu (x:q8T)(k:q8T⊕(q8T⊕q8T)→Option Res):Option Res:=
 let t0:=(IntKind.wrap .i64 (x.2.2.2.2.1-(x.1.length:Int)))
 bif (decide (x.2.2.2.2.1<(IntKind.wrap .i64 ((x.1.length:Int)+(x.2.1.length:Int)))))then
 bif (decide (x.2.2.2.2.1<(x.1.length:Int)))then
 if 0≤x.2.2.2.2.1∧x.2.2.2.2.1<(x.1.length:Int)then
 vb8 (x.1,x.2.1,x.2.2.1,x.2.2.2.1,x.2.2.2.2.1,(rd (Ty.zero tVersion) x.1 x.2.2.2.2.1).2.2.2,x.2.2.2.2.2.1,x.2.2.2.2.2.2) (Sum.elim (fun z7=>
 k (.inr (.inr (z7.1,z7.2.1,z7.2.2.1,z7.2.2.2.1,z7.2.2.2.2.1,z7.2.2.2.2.2.2.1,z7.2.2.2.2.2.2.2)))) (fun z8=>
 k (.inl (z8.1,z8.2.1,z8.2.2.1,z8.2.2.2.1,(IntKind.wrap .i64 (z8.2.2.2.2.1+1)),z8.2.2.2.2.2.2.1,z8.2.2.2.2.2.2.2))))
 else none
 else
 if 0≤t0∧t0<(x.2.1.length:Int)then
 vb8 (x.1,x.2.1,x.2.2.1,x.2.2.2.1,x.2.2.2.2.1,(rd (Ty.zero tVersion) x.2.1 t0).2.2.2,x.2.2.2.2.2.1,x.2.2.2.2.2.2) (Sum.elim (fun z9=>
 k (.inr (.inr (z9.1,z9.2.1,z9.2.2.1,z9.2.2.2.1,z9.2.2.2.2.1,z9.2.2.2.2.2.2.1,z9.2.2.2.2.2.2.2)))) (fun z10=>
 k (.inl (z10.1,z10.2.1,z10.2.2.1,z10.2.2.2.1,(IntKind.wrap .i64 (z10.2.2.2.2.1+1)),z10.2.2.2.2.2.2.1,z10.2.2.2.2.2.2.2))))
 else none
 else
 k (.inr (.inl (x.1,x.2.1,x.2.2.1,x.2.2.2.1,x.2.2.2.2.1,x.2.2.2.2.2.1,x.2.2.2.2.2.2)))
instance n36n_bp0 (x:q8T):ParC (vgu x):=by unfold vgu;(try dsimp only);infer_instance
def vzy (a0:(List vaa))(a1:(List vaa))(a2:Int)(k:Bool→Option Res):Option Res:=
 vtm  (fun y1=>
 vhl a0 y1 a2 (fun y2=>
 vhl a1 y1 a2 (fun y3=>
 voi y2 y3 (fun y4=>
 bif (!y4)then
 k false
 else
 vae vgu Fuel (a0,a1,a2,false,0,y1.1,y1.2) (Sum.elim (fun _=>
 k true) (fun z6=>
 k z6.2.2.2.1))))))
def vp6:=shut vzy
theorem v3x:vp6=vzy:=vaj _
instance n36n_p (a0:(List vaa))(a1:(List vaa))(a2:Int):ParC (vp6 a0 a1 a2):=by rw [v3x];unfold vzy;(try dsimp only);infer_instance
def vig (x:q2T)(k:q2T⊕(q2T⊕q2T)→Option Res):Option Res:=
 bif (decide (x.2.2.2.1<12))then
 vp1  (fun y22=>
 vjx x.2.2.2.2.2 y22 x.2.2.2.1 (fun y23=>
 vp1  (fun y24=>
 vjx x.2.2.2.2.1 y24 x.2.2.2.1 (fun y25=>
 vml y23 y25 (fun y26=>
 bif (!y26)then
 k (.inr (.inl (x.1,false,x.2.2.1,x.2.2.2.1,x.2.2.2.2.1,x.2.2.2.2.2)))
 else
 k (.inl (x.1,x.2.1,x.2.2.1,(IntKind.wrap .i64 (x.2.2.2.1+1)),x.2.2.2.2.1,x.2.2.2.2.2)))))))
 else
 k (.inr (.inr (x.1,x.2.1,x.2.2.1,x.2.2.2.1,x.2.2.2.2.1,x.2.2.2.2.2)))
instance n18n_bp0 (x:q2T):ParC (vig x):=by unfold vig;(try dsimp only);infer_instance
def vy3 (a0:(List Int))(k:Bool→Option Res):Option Res:=
 vp3 a0 (fun y1=>
 bif y1 then
 k true
 else
 vrm a0 (fun y2=>
 vq2 a0 (fun y3=>
 if 0≤(0:Int)∧(0:Int)<(y3.length:Int)then
 vhp y2 ((y3.getD (0:Int).toNat (Ty.zero (.i))).tmod (10:Int)) (fun y4=>
 vae vig Fuel (a0,false,((y3.getD (0:Int).toNat (Ty.zero (.i))).tmod (10:Int)),((y3.getD (0:Int).toNat (Ty.zero (.i))).tmod (10:Int)),y2,y4) (Sum.elim (fun z5=>
 k z5.2.1) (fun z6=>
 vq9 z6.1 (fun y7=>
 vq8 z6.1 (fun y8=>
 vqt z6.1 (fun y9=>
 vpg z6.2.2.2.2.2 (fun y10=>
 bif y10 then
 bif (decide ((z6.2.2.2.2.2.length:Int)≤(z6.2.2.2.2.1.length:Int)))then
 vhp z6.2.2.2.2.2 z6.2.2.1 (fun y11=>
 vlm y11 z6.2.2.2.2.2 (fun y12=>
 bif y12 then
 vmt z6.2.2.2.2.2 z6.2.2.2.2.1 z6.2.2.1 (fun y13=>
 bif y13 then
 vhp y7.2 y7.1 (fun y14=>
 vmg y7.2 y7.1 (fun y15=>
 vlm y14 y15 (fun y16=>
 bif y16 then
 vmt y8.2.1 y8.2.2 y8.1 (fun y17=>
 vp6 y8.2.1 y8.2.2 y8.1 (fun y18=>
 bif (y17==y18)then
 vjx y9.2.2.2 (y9.1,y9.2.1) y9.2.2.1 (fun y19=>
 vhl y9.2.2.2 (y9.1,y9.2.1) y9.2.2.1 (fun y20=>
 vml y19 y20 (fun y21=>
 k y21)))
 else
 k false))
 else
 k false)))
 else
 k false)
 else
 k false))
 else
 k false
 else
 k false)))))))
 else none)))
def vuo:=shut vy3
theorem v39:vuo=vy3:=vaj _
instance n18n_p (a0:(List Int)):ParC (vuo a0):=by rw [v39];unfold vy3;(try dsimp only);exact⟨((n20n_p _).p.bind fun y1=>(va7 (vao _) ((n32n_p _).p.bind fun y2=>((n28n_p _).p.bind fun y3=>(vco ((n10n_p _ _).p.bind fun y4=>((vne (fun x=>(n18n_bp0 x).p) _ _).bind2 (fun z5=>(vao _)) (fun z6=>((n31n_p _).p.bind fun y7=>((n29n_p _).p.bind fun y8=>((n30n_p _).p.bind fun y9=>((n12n_p _).p.bind fun y10=>(va7 (va7 ((n10n_p _ _).p.bind fun y11=>((n22n_p _ _).p.bind fun y12=>(va7 ((n06n_p _ _ _).p.bind fun y13=>(va7 ((n10n_p _ _).p.bind fun y14=>((n39n_p _ _).p.bind fun y15=>((n22n_p _ _).p.bind fun y16=>(va7 ((n06n_p _ _ _).p.bind fun y17=>((n36n_p _ _ _).p.bind fun y18=>(va7 ((n08n_p _ _ _).p.bind fun y19=>((n37n_p _ _ _).p.bind fun y20=>((n21n_p _ _).p.bind fun y21=>(vao _)))) (vao _)))) (vao _))))) (vao _))) (vao _)))) (vao _)) (vao _))))))))) vbs)))))⟩
def wbg (args:List AV)(st:St)(k:K1):Option Res:=
 vak [.lst (.int .u8)] [] args st (fun p q=>vp3 p.1 (fun(y:Bool)=>k (.bool y) []))
 (none)
def wao (args:List AV)(st:St)(k:K1):Option Res:=
 vak [.lst (.int .u8)] [] args st (fun p q=>vlk p.1 (fun(y:((List Int)×Int×Int))=>k (.bp 0 0) [.box [.lst (.int .u8) y.1,.i y.2.1,.i y.2.2]]))
 (none)
def wbi (args:List AV)(st:St)(k:K1):Option Res:=
 vak [.bp 0 0] [.box [.lst (.int .u8),.i,.i]] args st (fun p q=>vjt q.1.1 q.1.2.1 q.1.2.2.1 (fun(y:(Int×(List Int)×Int×Int))=>k (.i y.1) [.box [.lst (.int .u8) y.2.1,.i y.2.2.1,.i y.2.2.2]]))
 (none)
def v9y (args:List AV)(st:St)(k:K1):Option Res:=
 vak [.bp 0 0,.i] [.box [.lst (.int .u8),.i,.i]] args st (fun p q=>vev p.2.1 q.1.1 q.1.2.1 q.1.2.2.1 (fun(y:(Int×(List Int)×Int×Int))=>k (.i y.1) [.box [.lst (.int .u8) y.2.1,.i y.2.2.1,.i y.2.2.2]]))
 (none)
def wa0 (args:List AV)(st:St)(k:K1):Option Res:=
 vak [.bp 0 0,.lst .str] [.box [.lst (.int .u8),.i,.i]] args st (fun p q=>vq1 p.2.1 q.1.1 q.1.2.1 q.1.2.2.1 (fun(y:q26T)=>k (.str y.1) [.box [.lst (.int .u8) y.2.1,.i y.2.2.1,.i y.2.2.2]]))
 (none)
def wbn (args:List AV)(st:St)(k:K1):Option Res:=
 vak [.bp 0 0] [.box [.lst (.int .u8),.i,.i]] args st (fun p q=>vm5 q.1.1 q.1.2.1 q.1.2.2.1 (fun(y:q26T)=>k (.str y.1) [.box [.lst (.int .u8) y.2.1,.i y.2.2.1,.i y.2.2.2]]))
 (none)
def wbq (args:List AV)(st:St)(k:K1):Option Res:=
 vak [.bp 0 0,.i] [.box [.lst (.int .u8),.i,.i]] args st (fun p q=>vnq p.2.1 q.1.1 q.1.2.1 q.1.2.2.1 (fun(y:(Bool×(List Int)×Int×Int))=>k (.bool y.1) [.box [.lst (.int .u8) y.2.1,.i y.2.2.1,.i y.2.2.2]]))
 (none)
def wa1 (args:List AV)(st:St)(k:K1):Option Res:=
 vak [.bp 0 0] [.box [.lst (.int .u8),.i,.i]] args st (fun p q=>vus q.1.1 q.1.2.1 q.1.2.2.1 (fun(y:q28T)=>k (.agg [.str y.1,.str y.2.1,.bool y.2.2.1]) [.box [.lst (.int .u8) y.2.2.2.1,.i y.2.2.2.2.1,.i y.2.2.2.2.2]]))
 (none)
def waf (args:List AV)(st:St)(k:K1):Option Res:=
 vak [.lst tWrite,.agg [.str,.str,.bool]] [] args st (fun p q=>vo2 p.1 (p.2.1.1,(p.2.1.2.1,p.2.1.2.2.1)) (fun(y:(List va3))=>k (.own 0) [.arr tWrite y]))
 (none)
def wal (args:List AV)(st:St)(k:K1):Option Res:=
 vak [.bp 0 0] [.box [.lst (.int .u8),.i,.i]] args st (fun p q=>vt1 q.1.1 q.1.2.1 q.1.2.2.1 (fun(y:q4T)=>k (.own 1) [.box [.lst (.int .u8) y.1,.i y.2.1,.i y.2.2.1],.arr tWrite y.2.2.2]))
 (none)
def wa2 (args:List AV)(st:St)(k:K1):Option Res:=
 vak [.lst tVersion,.lst tWrite,.i] [] args st (fun p q=>vqd p.1 p.2.1 p.2.2.1 (fun(y:(List vaa))=>k (.own 0) [.arr tVersion y]))
 (none)
def waa (args:List AV)(st:St)(k:K1):Option Res:=
 vak [.bp 0 0] [.box [.lst (.int .u8),.i,.i]] args st (fun p q=>vqc q.1.1 q.1.2.1 q.1.2.2.1 (fun(y:q3T)=>k (.own 1) [.box [.lst (.int .u8) y.1,.i y.2.1,.i y.2.2.1],.arr tVersion y.2.2.2]))
 (none)
def wbh (args:List AV)(st:St)(k:K1):Option Res:=
 vak [.lst (.int .u8)] [] args st (fun p q=>vrm p.1 (fun(y:(List vaa))=>k (.own 0) [.arr tVersion y]))
 (none)
def waz (args:List AV)(st:St)(k:K1):Option Res:=
 vak [.lst (.int .u8)] [] args st (fun p q=>vq2 p.1 (fun(y:(List Int))=>k (.own 0) [.arr (.i) y]))
 (none)
def wap (args:List AV)(st:St)(k:K1):Option Res:=
 vak [.lst tVersion,.str,.i] [] args st (fun p q=>vmn p.1 p.2.1 p.2.2.1 (fun(y:Int)=>k (.i y) []))
 (none)
def wav (args:List AV)(st:St)(k:K1):Option Res:=
 vak [.str,.bp 0 0] [.box [.own 1],.arr tVersion] args st (fun p q=>vrt p.1 q.2.1 (fun(y:(Int×(List vaa)))=>k (.i y.1) [.box [.own 1],.arr tVersion y.2]))
 (none)
def wax (args:List AV)(st:St)(k:K1):Option Res:=
 vak [.lst tVersion,.i] [] args st (fun p q=>vhp p.1 p.2.1 (fun(y:(List vaa))=>k (.own 0) [.arr tVersion y]))
 (none)
def wbk (args:List AV)(st:St)(k:K1):Option Res:=
 vak [] [] args st (fun p q=>vp1  (fun(y:(ByteArray×ByteArray))=>k (.agg [.str y.1,.str y.2]) []))
 (none)
def vcx (args:List AV)(st:St)(k:K1):Option Res:=
 vak [.own 0] [.arr .str] args st (fun p q=>vro q.1 (fun(y:(List ByteArray))=>k (.tup []) [.arr .str y]))
 (none)
def vdl (args:List AV)(st:St)(k:K1):Option Res:=
 vak [.own 0] [.arr .str] args st (fun p q=>vn4 q.1 (Sum.elim (fun(y:(List ByteArray))=>k (.own 0) [.arr .str y]) (fun(y:(List ByteArray))=>k (.own 1) [.gone,.arr .str y])))
 (none)
def wbl (args:List AV)(st:St)(k:K1):Option Res:=
 vak [.lst tVersion] [] args st (fun p q=>vrf p.1 (fun(y:(List ByteArray))=>k (.own 0) [.arr .str y]))
 (none)
def wac (args:List AV)(st:St)(k:K1):Option Res:=
 vak [.lst tVersion,.str,.i] [] args st (fun p q=>vtz p.1 p.2.1 p.2.2.1 (fun(y:(ByteArray×Bool))=>k (.tup [.str y.1,.bool y.2]) []))
 (none)
def waw (args:List AV)(st:St)(k:K1):Option Res:=
 vak [.agg [.str,.str],.str] [] args st (fun p q=>vri (p.1.1,p.1.2.1) p.2.1 (fun(y:Bool)=>k (.bool y) []))
 (none)
def v90 (args:List AV)(st:St)(k:K1):Option Res:=
 vak [.lst tVersion,.agg [.str,.str],.i] [] args st (fun p q=>vjx p.1 (p.2.1.1,p.2.1.2.1) p.2.2.1 (fun(y:(List vam))=>k (.own 0) [.arr tRange y]))
 (none)
def wau (args:List AV)(st:St)(k:K1):Option Res:=
 vak [.lst tRange,.lst tRange] [] args st (fun p q=>vml p.1 p.2.1 (fun(y:Bool)=>k (.bool y) []))
 (none)
def v9z (args:List AV)(st:St)(k:K1):Option Res:=
 vak [.i,.int .u8] [] args st (fun p q=>vt3 p.1 p.2.1 (fun(y:ByteArray)=>k (.str y) []))
 (none)
def wba (args:List AV)(st:St)(k:K1):Option Res:=
 vak [.bp 0 0] [.box [.lst (.int .u8),.i,.i]] args st (fun p q=>vm4 q.1.1 q.1.2.1 q.1.2.2.1 (fun(y:q3T)=>k (.own 1) [.box [.lst (.int .u8) y.1,.i y.2.1,.i y.2.2.1],.arr tVersion y.2.2.2]))
 (none)
def v97 (args:List AV)(st:St)(k:K1):Option Res:=
 vak [.lst (.int .u8)] [] args st (fun p q=>vq9 p.1 (fun(y:(Int×(List vaa)))=>k (.tup [.own 0,.i y.1]) [.arr tVersion y.2]))
 (none)
def wa5 (args:List AV)(st:St)(k:K1):Option Res:=
 vak [.lst tVersion,.str,.i] [] args st (fun p q=>vmj p.1 p.2.1 p.2.2.1 (fun(y:Int)=>k (.i y) []))
 (none)
def wbe (args:List AV)(st:St)(k:K1):Option Res:=
 vak [.lst tVersion,.i] [] args st (fun p q=>vmg p.1 p.2.1 (fun(y:(List vaa))=>k (.own 0) [.arr tVersion y]))
 (none)
def wab (args:List AV)(st:St)(k:K1):Option Res:=
 vak [.lst (.int .u8)] [] args st (fun p q=>vq8 p.1 (fun(y:q35T)=>k (.tup [.own 0,.own 1,.i y.1]) [.arr tVersion y.2.1,.arr tVersion y.2.2]))
 (none)
def wah (args:List AV)(st:St)(k:K1):Option Res:=
 vak [.bp 0 0] [.box [.lst (.int .u8),.i,.i]] args st (fun p q=>vt7 q.1.1 q.1.2.1 q.1.2.2.1 (fun(y:q27T)=>k (.agg [.str y.1,.str y.2.1]) [.box [.lst (.int .u8) y.2.2.1,.i y.2.2.2.1,.i y.2.2.2.2]]))
 (none)
def wbj (args:List AV)(st:St)(k:K1):Option Res:=
 vak [.lst (.int .u8)] [] args st (fun p q=>vqt p.1 (fun(y:q29T)=>k (.tup [.own 0,.agg [.str y.1,.str y.2.1],.i y.2.2.1]) [.arr tVersion y.2.2.2]))
 (none)
def wbd (args:List AV)(st:St)(k:K1):Option Res:=
 vak [.i,.i,.i] [] args st (fun p q=>vjy p.1 p.2.1 p.2.2.1 (fun(y:Bool)=>k (.bool y) []))
 (none)
def wa9 (args:List AV)(st:St)(k:K1):Option Res:=
 vak [.str] [] args st (fun p q=>vo3 p.1 (fun(y:Bool)=>k (.bool y) []))
 (none)
def v99 (args:List AV)(st:St)(k:K1):Option Res:=
 vak [.str] [] args st (fun p q=>vur p.1 (fun(y:Bool)=>k (.bool y) []))
 (none)
def wat (args:List AV)(st:St)(k:K1):Option Res:=
 vak [.str,.str] [] args st (fun p q=>vvu p.1 p.2.1 (fun(y:Int)=>k (.i y) []))
 (none)
def v93 (args:List AV)(st:St)(k:K1):Option Res:=
 vak [.i] [] args st (fun p q=>vvf p.1 (fun(y:Bool)=>k (.bool y) []))
 (none)
def v96 (args:List AV)(st:St)(k:K1):Option Res:=
 vak [.i,.i] [] args st (fun p q=>vvl p.1 p.2.1 (fun(y:Int)=>k (.i y) []))
 (none)
def wak (args:List AV)(st:St)(k:K1):Option Res:=
 vak [.agg [.str,.str,.bool,.i],.agg [.str,.str,.bool,.i]] [] args st (fun p q=>vmy (p.1.1,(p.1.2.1,(p.1.2.2.1,p.1.2.2.2.1))) (p.2.1.1,(p.2.1.2.1,(p.2.1.2.2.1,p.2.1.2.2.2.1))) (fun(y:Int)=>k (.i y) []))
 (none)
def wan (args:List AV)(st:St)(k:K1):Option Res:=
 vak [.lst tVersion] [] args st (fun p q=>vpg p.1 (fun(y:Bool)=>k (.bool y) []))
 (none)
def wa7 (args:List AV)(st:St)(k:K1):Option Res:=
 vak [.lst tVersion,.lst tVersion] [] args st (fun p q=>vlm p.1 p.2.1 (fun(y:Bool)=>k (.bool y) []))
 (none)
def vdy (args:List AV)(st:St)(k:K1):Option Res:=
 vak [.nilS,.i] [] args st (fun p q=>vqh p.2.1 (fun(y:(List vaa))=>k (.own 0) [.arr tVersion y]))
 (none)
def wbc (args:List AV)(st:St)(k:K1):Option Res:=
 vak [.lst (.slice tVersion)] [] args st (fun p q=>vrd p.1 (fun(y:(List vaa))=>k (.own 0) [.arr tVersion y]))
 (none)
def wbo (args:List AV)(st:St)(k:K1):Option Res:=
 vak [] [] args st (fun p q=>vpz  (fun(y:(ByteArray×ByteArray))=>k (.agg [.str y.1,.str y.2]) []))
 (none)
def wbm (args:List AV)(st:St)(k:K1):Option Res:=
 vak [.lst tRange,.lst tRange] [] args st (fun p q=>vq0 p.1 p.2.1 (fun(y:Bool)=>k (.bool y) []))
 (none)
def v98 (args:List AV)(st:St)(k:K1):Option Res:=
 vak [.i,.bp 0 0,.bp 1 0] [.box [.lst tVersion],.box [.lst tVersion]] args st (fun p q=>vqu p.1 q.1.1 q.2.1.1 (fun(y:q25T)=>k (.bool y.1) [.box [.lst tVersion y.2.1],.box [.lst tVersion y.2.2]]))
 (none)
def waq (args:List AV)(st:St)(k:K1):Option Res:=
 vak [.lst tVersion,.lst tVersion,.i] [] args st (fun p q=>vmt p.1 p.2.1 p.2.2.1 (fun(y:Bool)=>k (.bool y) []))
 (none)
def v92 (args:List AV)(st:St)(k:K1):Option Res:=
 vak [] [] args st (fun p q=>vtm  (fun(y:(ByteArray×ByteArray))=>k (.agg [.str y.1,.str y.2]) []))
 (none)
def waj (args:List AV)(st:St)(k:K1):Option Res:=
 vak [.agg [.str,.str],.str] [] args st (fun p q=>vq4 (p.1.1,p.1.2.1) p.2.1 (fun(y:Bool)=>k (.bool y) []))
 (none)
def wbp (args:List AV)(st:St)(k:K1):Option Res:=
 vak [.lst tVersion,.agg [.str,.str]] [] args st (fun p q=>vtp p.1 (p.2.1.1,p.2.1.2.1) (fun(y:(List ByteArray))=>k (.own 0) [.arr .str y]))
 (none)
def wae (args:List AV)(st:St)(k:K1):Option Res:=
 vak [.lst tVersion,.str,.i] [] args st (fun p q=>vu9 p.1 p.2.1 p.2.2.1 (fun(y:(ByteArray×Bool))=>k (.tup [.str y.1,.bool y.2]) []))
 (none)
def wam (args:List AV)(st:St)(k:K1):Option Res:=
 vak [.lst tVersion,.agg [.str,.str],.i] [] args st (fun p q=>vhl p.1 (p.2.1.1,p.2.1.2.1) p.2.2.1 (fun(y:(List vam))=>k (.own 0) [.arr tRange y]))
 (none)
def v95 (args:List AV)(st:St)(k:K1):Option Res:=
 vak [.lst tRange,.lst tRange] [] args st (fun p q=>voi p.1 p.2.1 (fun(y:Bool)=>k (.bool y) []))
 (none)
def wbf (args:List AV)(st:St)(k:K1):Option Res:=
 vak [.lst tVersion,.lst tVersion,.i] [] args st (fun p q=>vp6 p.1 p.2.1 p.2.2.1 (fun(y:Bool)=>k (.bool y) []))
 (none)
def v5n (args:List AV)(st:St)(k:K1):Option Res:=
 vak [.lst (.int .u8)] [] args st (fun p q=>vuo p.1 (fun(y:Bool)=>k (.bool y) []))
 (none)
end
end Go.VE
