/- Native programs of the functions, written by gen.py. -/
import Derived.Test.YteolgjmeigifbaaT0
import Derived.Test.YteolgjmeigifbaaU29
namespace Go.VE
noncomputable section
set_option linter.unusedVariables false
set_option linter.unusedSimpArgs false
set_option maxRecDepth 100000
abbrev q0T:Type:=((List ByteArray)×Int×Int×(List Int))
abbrev q1T:Type:=((List Int)×Int×Int×(List Int))
abbrev q2T:Type:=((List Int)×Int×Int×(List vad))
abbrev q3T:Type:=((List Int)×Int×Int×(List vah))
abbrev q4T:Type:=((List Int)×Int×Int×(List vaa))
abbrev q5T:Type:=((List vad)×Int×Int×Int×ByteArray×ByteArray)
abbrev q6T:Type:=((List vad)×Int×Int×Int×Int×Int×Int×(List vad)×(List vaa)×Bool×ByteArray×(List Int))
abbrev q7T:Type:=((List vah)×ByteArray×ByteArray×Bool×Int×Int×Int×Int×Int×(List vad)×(List vaa)×Bool×ByteArray)
abbrev q8T:Type:=((List vah)×ByteArray×Int×Int×(List vah)×Int×Int)
abbrev q9T:Type:=((List vah)×ByteArray×Int×Int×Int)
abbrev q10T:Type:=((List vaa)×(List vaa)×Bool×Int)
abbrev q11T:Type:=((List vaa)×Bool×(List vaa)×Int×Int)
abbrev q12T:Type:=((List vaa)×Int×ByteArray×ByteArray×Bool×(List vaa))
abbrev q13T:Type:=((List vaa)×Int×Int×(List vah))
abbrev q14T:Type:=((List vaa)×Int×Int×Int×(List vah)×ByteArray×ByteArray×Bool×Int×(List vah))
abbrev q15T:Type:=((List vaa)×Int×Int×Int×ByteArray)
abbrev q16T:Type:=((List vaa)×Int×Int×Int×Int×Int×Int×(List vad)×(List vaa)×Bool×ByteArray×(List Int))
abbrev q17T:Type:=(Bool×(List vad)×Int×Int×Int×Int×Int×Int×(List vad)×(List vaa)×Bool×ByteArray)
abbrev q18T:Type:=(Bool×ByteArray×Int×Bool)
abbrev q19T:Type:=(Bool×Int×Int×Int×Int×(List vad)×(List vaa)×Bool×ByteArray×ByteArray×ByteArray×Bool×Int×Int×Int×Int×Bool×ByteArray×Int×Int×Int×Int×Bool×ByteArray×(List vad)×(List vaa)×(List vad)×(List vaa))
abbrev q20T:Type:=(Bool×Int×Int×Int×Int×(List vad)×(List vaa)×Bool×ByteArray×ByteArray×ByteArray×Bool×Int×Int×Int×Int×Bool×ByteArray×Int×Int×Int×Int×Bool×ByteArray×(List vad)×(List vaa))
abbrev q21T:Type:=(Bool×Int×Int×Int×Int×(List vad)×(List vaa)×Bool×ByteArray×ByteArray×ByteArray×Int×Int×Int×Int×Bool×ByteArray×Int×Int×Int×Int×Bool×ByteArray×(List vad)×(List vaa)×(List vad)×(List vaa))
abbrev q22T:Type:=(Bool×Int×Int×Int×Int×(List vad)×(List vaa)×Bool×ByteArray×ByteArray×ByteArray×Int×Int×Int×Int×Bool×ByteArray×Int×Int×Int×Int×Bool×ByteArray×(List vad)×(List vaa))
abbrev q23T:Type:=(Bool×Int×Int×Int×Int×(List vad)×(List vaa)×Bool×ByteArray×Int×Int×Int×Int×(List vad)×(List vaa)×Bool×ByteArray)
abbrev q24T:Type:=(Bool×Int×Int×Int×Int×(List vad)×(List vaa)×Bool×ByteArray)
abbrev q25T:Type:=(Bool×Int×Int×Int×Int×Bool×ByteArray×(List vad)×(List vaa)×(List vaa))
abbrev q26T:Type:=(Bool×Int×Int×Int×Int×Int×(List vad)×(List vaa)×Bool×ByteArray×ByteArray×ByteArray×Int×Int×Int×Int×Bool×ByteArray×Int×Int×Int×Int×Bool×ByteArray×(List vad)×(List vaa)×(List vad)×(List vaa))
abbrev q27T:Type:=(Bool×Int×Int×Int×Int×Int×(List vad)×(List vaa)×Bool×ByteArray×ByteArray×ByteArray×Int×Int×Int×Int×Bool×ByteArray×Int×Int×Int×Int×Bool×ByteArray×(List vad)×(List vaa))
abbrev q28T:Type:=(Bool×Int×Int×Int×Int×Int×(List vad)×(List vaa)×Bool×ByteArray×Int×Int×Int×Int×(List vad)×(List vaa)×Bool×ByteArray)
abbrev q29T:Type:=(Bool×Int×Int×Int×Int×Int×(List vad)×(List vaa)×Bool×ByteArray)
abbrev q30T:Type:=(ByteArray×(List Int)×Int×Int)
abbrev q31T:Type:=(ByteArray×ByteArray×(List Int)×Int×Int)
abbrev q32T:Type:=(ByteArray×ByteArray×Bool×(List Int)×Int×Int)
abbrev q33T:Type:=(ByteArray×ByteArray×Int×Bool)
abbrev q34T:Type:=(ByteArray×Int×Bool×Int×Int×Int×Int×Bool×ByteArray×(List vad)×(List vaa))
abbrev q35T:Type:=(ByteArray×Int×Bool×Int×Int×Int×Int×Bool×ByteArray×(List vad))
abbrev q36T:Type:=(ByteArray×Int×Int×Int×Bool×Int×Int×Int)
abbrev q37T:Type:=(ByteArray×Int×Int×Int×Bool×Int×Int)
abbrev q38T:Type:=(ByteArray×Int×Int×Int×Int×Int×(List vad)×(List vaa)×Bool×ByteArray)
abbrev q39T:Type:=(Int×(List Int)×Int×Int×(List vad))
abbrev q40T:Type:=(Int×(List Int)×Int×Int×(List vah))
abbrev q41T:Type:=(Int×(List Int)×Int×Int×(List vaa))
abbrev q42T:Type:=(Int×Bool×Int×Int×Int×Int×Bool×ByteArray×ByteArray×Int×Bool×Int×Int×Int×Int×Bool×ByteArray×(List vad)×(List vaa))
abbrev q43T:Type:=(Int×ByteArray×(List Int)×Int×Int)
abbrev q44T:Type:=(Int×ByteArray×ByteArray×Bool×(List vaa))
abbrev q45T:Type:=(Int×Int×(List Int)×Int×Int×(List Int))
abbrev q46T:Type:=(Int×Int×ByteArray×Int×Bool×Int×Int×Int×Int×Bool×ByteArray×(List vad)×(List vaa))
abbrev q47T:Type:=(Int×Int×ByteArray×Int×Bool×Int×Int×Int×Int×Bool×ByteArray×(List vad))
abbrev q48T:Type:=(Int×Int×Int×Int×Bool×ByteArray×(List Int)×Int×Int×(List vad)×(List vaa))
abbrev q49T:Type:=(Int×Int×Int×Int×Bool×ByteArray×(List vad)×(List vaa))
abbrev q50T:Type:=(Int×Int×Int×Int×Bool×ByteArray×Bool×(List vad)×(List vaa))
abbrev q51T:Type:=(Int×Int×Int×Int×Bool×ByteArray×ByteArray×(List vad)×(List vaa)×(List vah))
abbrev q52T:Type:=(Int×Int×Int×Int×Bool×ByteArray×ByteArray×ByteArray×(List Int)×Int×Int×ByteArray×ByteArray×Int×Int×Int×Int×Bool×ByteArray×(List vad)×(List vaa)×(List vad)×(List vaa))
abbrev q53T:Type:=(Int×Int×Int×Int×Bool×ByteArray×ByteArray×ByteArray×(List Int)×Int×Int×ByteArray×ByteArray×Int×Int×Int×Int×Bool×ByteArray×(List vad)×(List vaa))
abbrev q54T:Type:=(Int×Int×Int×Int×Bool×ByteArray×ByteArray×ByteArray×(List vad)×(List vaa))
abbrev q55T:Type:=(Int×Int×Int×Int×Bool×ByteArray×ByteArray×ByteArray×Bool×(List vad)×(List vaa))
abbrev q56T:Type:=(Int×Int×Int×Int×Bool×ByteArray×ByteArray×Int×Bool×(List vad)×(List vaa))
abbrev q57T:Type:=(Int×Int×Int×Int×Bool×ByteArray×ByteArray×Int×Bool×(List vad))
abbrev q58T:Type:=(Int×Int×Int×Int×Bool×ByteArray×ByteArray×Int×Bool×Int×Int×Int×Int×Bool×ByteArray×(List vad)×(List vaa)×(List vad)×(List vaa))
abbrev q59T:Type:=(Int×Int×Int×Int×Bool×ByteArray×Int×Bool×(List vad)×(List vaa))
abbrev q60T:Type:=(Int×Int×Int×Int×Int×Int×Bool×ByteArray×ByteArray×Int×Bool×Int×Int×Int×Int×Bool×ByteArray×(List vad)×(List vaa))
abbrev q61T:Type:=(Int×Int×Int×Int×Int×Int×Bool×ByteArray×ByteArray×Int×Bool×Int×Int×Int×Int×Bool×ByteArray×(List vad))
def wcu (a0:(List Int))(k:Bool→Option Res):Option Res:=
 k (decide ((a0.length:Int)>(1048576:Int)))
def v1v:=shut wcu
theorem we1:v1v=wcu:=val _
instance n37n_p (a0:(List Int)):ParC (v1v a0):=by rw [we1];unfold wcu;(try dsimp only);infer_instance
def vej (x:((List Int)×Int×Int))(k:((List Int)×Int×Int)→Option Res):Option Res:=
 if 0≤x.2.2∧x.2.2<(x.1.length:Int)then
 k (x.1,(IntKind.wrap .i64 (BitVec.ofInt (IntKind.bits .i64) (IntKind.wrap .i64 ((IntKind.wrap .i64 ((IntKind.wrap .i64 (x.2.1*(131:Int)))+(IntKind.wrap .i64 (rd (Ty.zero (.int .u8)) x.1 x.2.2))))+7)) &&& BitVec.ofInt (IntKind.bits .i64) (1073741823:Int)).toNat),(IntKind.wrap .i64 (x.2.2+1)))
 else none
instance n68n_jp6000001 (x:((List Int)×Int×Int)):ParC (vej x):=by unfold vej;(try dsimp only);infer_instance
def vng (x:((List Int)×Int×Int))(k:((List Int)×Int×Int)⊕((List Int)×Int×Int)→Option Res):Option Res:=
 bif (decide (x.2.2<(x.1.length:Int)))then
 bif (decide (x.2.2<4000))then
 vej (x.1,x.2.1,x.2.2) (fun z2=>
 k (.inl (z2.1,z2.2.1,z2.2.2)))
 else
 k (.inr (x.1,x.2.1,x.2.2))
 else
 k (.inr (x.1,x.2.1,x.2.2))
instance n68n_bp0 (x:((List Int)×Int×Int)):ParC (vng x):=by unfold vng;(try dsimp only);infer_instance
def v7w (a0:(List Int))(k:((List Int)×Int×Int)→Option Res):Option Res:=
 vak vng Fuel (a0,(IntKind.wrap .i64 ((77601:Int)+(a0.length:Int))),0) (fun z1=>
 k (z1.1,0,z1.2.1))
def vn1:=shut v7w
theorem wdm:vn1=v7w:=val _
instance n68n_p (a0:(List Int)):ParC (vn1 a0):=by rw [wdm];unfold v7w;(try dsimp only);infer_instance
def v6b (a0:(List Int))(a1:Int)(a2:Int)(k:(Int×(List Int)×Int×Int)→Option Res):Option Res:=
 bif (decide (a1<(a0.length:Int)))then
 if 0≤a1∧a1<(a0.length:Int)then
 k ((IntKind.wrap .i64 (BitVec.ofInt (IntKind.bits .i64) (IntKind.wrap .i64 ((IntKind.wrap .i64 (BitVec.ofInt (IntKind.bits .i64) (IntKind.wrap .i64 (BitVec.ofInt (IntKind.bits .i64) ((IntKind.wrap .i64 ((IntKind.wrap .i64 (a2*(6364136223846793005:Int)))+1442695040888963407)).fdiv (2^(min (33:Int).toNat (IntKind.bits .i64)))) ^^^ BitVec.ofInt (IntKind.bits .i64) ((IntKind.wrap .i64 ((IntKind.wrap .i64 (a2*(6364136223846793005:Int)))+1442695040888963407)).fdiv (2^(min (45:Int).toNat (IntKind.bits .i64))))).toNat) &&& BitVec.ofInt (IntKind.bits .i64) (255:Int)).toNat)+(IntKind.wrap .i64 (rd (Ty.zero (.int .u8)) a0 a1)))) &&& BitVec.ofInt (IntKind.bits .i64) (255:Int)).toNat),a0,(IntKind.wrap .i64 (a1+1)),(IntKind.wrap .i64 ((IntKind.wrap .i64 (a2*(6364136223846793005:Int)))+1442695040888963407)))
 else none
 else
 k ((IntKind.wrap .i64 (BitVec.ofInt (IntKind.bits .i64) (IntKind.wrap .i64 (BitVec.ofInt (IntKind.bits .i64) ((IntKind.wrap .i64 ((IntKind.wrap .i64 (a2*(6364136223846793005:Int)))+1442695040888963407)).fdiv (2^(min (33:Int).toNat (IntKind.bits .i64)))) ^^^ BitVec.ofInt (IntKind.bits .i64) ((IntKind.wrap .i64 ((IntKind.wrap .i64 (a2*(6364136223846793005:Int)))+1442695040888963407)).fdiv (2^(min (45:Int).toNat (IntKind.bits .i64))))).toNat) &&& BitVec.ofInt (IntKind.bits .i64) (255:Int)).toNat),a0,a1,(IntKind.wrap .i64 ((IntKind.wrap .i64 (a2*(6364136223846793005:Int)))+1442695040888963407)))
def vmx:=shut v6b
theorem wf5:vmx=v6b:=val _
instance n65n_p (a0:(List Int))(a1:Int)(a2:Int):ParC (vmx a0 a1 a2):=by rw [wf5];unfold v6b;(try dsimp only);infer_instance
def vz5 (a0:Int)(a1:(List Int))(a2:Int)(a3:Int)(k:(Int×(List Int)×Int×Int)→Option Res):Option Res:=
 bif (decide (a0≤0))then
 k (0,a1,a2,a3)
 else
 bif (decide (a0≤256))then
 vmx a1 a2 a3 (fun y1=>
 if a0=0 then none else
 k ((y1.1.tmod a0),y1.2.1,y1.2.2.1,y1.2.2.2))
 else
 vmx a1 a2 a3 (fun y2=>
 vmx y2.2.1 y2.2.2.1 y2.2.2.2 (fun y3=>
 vmx y3.2.1 y3.2.2.1 y3.2.2.2 (fun y4=>
 vmx y4.2.1 y4.2.2.1 y4.2.2.2 (fun y5=>
 if a0=0 then none else
 k (((IntKind.wrap .i64 ((IntKind.wrap .i64 ((IntKind.wrap .i64 ((IntKind.wrap .i64 (y2.1*(16777216:Int)))+(IntKind.wrap .i64 (y3.1*(65536:Int)))))+(IntKind.wrap .i64 (y4.1*(256:Int)))))+y5.1)).tmod a0),y5.2.1,y5.2.2.1,y5.2.2.2)))))
def vcu:=shut vz5
theorem v9f:vcu=vz5:=val _
instance n64n_p (a0:Int)(a1:(List Int))(a2:Int)(a3:Int):ParC (vcu a0 a1 a2 a3):=by rw [v9f];unfold vz5;(try dsimp only);exact⟨(vaj (vag _) (vaj ((n65n_p _ _ _).p.bind fun y1=>(vbf vax (vag _))) ((n65n_p _ _ _).p.bind fun y2=>((n65n_p _ _ _).p.bind fun y3=>((n65n_p _ _ _).p.bind fun y4=>((n65n_p _ _ _).p.bind fun y5=>(vbf vax (vag _))))))))⟩
def v6c (a0:(List ByteArray))(a1:(List Int))(a2:Int)(a3:Int)(k:q30T→Option Res):Option Res:=
 vcu (a0.length:Int) a1 a2 a3 (fun y1=>
 if 0≤y1.1∧y1.1<(a0.length:Int)then
 k ((rd (Ty.zero .str) a0 y1.1),y1.2.1,y1.2.2.1,y1.2.2.2)
 else none)
def vq5:=shut v6c
theorem wfq:vq5=v6c:=val _
instance n70n_p (a0:(List ByteArray))(a1:(List Int))(a2:Int)(a3:Int):ParC (vq5 a0 a1 a2 a3):=by rw [wfq];unfold v6c;(try dsimp only);infer_instance
def v0m (a0:(List Int))(a1:Int)(a2:Int)(k:q30T→Option Res):Option Res:=
 vq5 [(⟨#[97]⟩:ByteArray),(⟨#[98]⟩:ByteArray),(⟨#[99]⟩:ByteArray),(⟨#[100]⟩:ByteArray),(⟨#[97,98]⟩:ByteArray)] a0 a1 a2 (fun y1=>
 k (y1.1,y1.2.1,y1.2.2.1,y1.2.2.2))
def vmu:=shut v0m
theorem v9c:vmu=v0m:=val _
instance n75n_p (a0:(List Int))(a1:Int)(a2:Int):ParC (vmu a0 a1 a2):=by rw [v9c];unfold v0m;(try dsimp only);infer_instance
def v66 (a0:Int)(a1:(List Int))(a2:Int)(a3:Int)(k:(Bool×(List Int)×Int×Int)→Option Res):Option Res:=
 vcu a0 a1 a2 a3 (fun y1=>
 k ((y1.1==(0:Int)),y1.2.1,y1.2.2.1,y1.2.2.2))
def vnz:=shut v66
theorem wfi:vnz=v66:=val _
instance n69n_p (a0:Int)(a1:(List Int))(a2:Int)(a3:Int):ParC (vnz a0 a1 a2 a3):=by rw [wfi];unfold v66;(try dsimp only);infer_instance
def v70 (a0:(List Int))(a1:Int)(a2:Int)(k:q31T→Option Res):Option Res:=
 vmu a0 a1 a2 (fun y1=>
 vnz (2:Int) y1.2.1 y1.2.2.1 y1.2.2.2 (fun y2=>
 bif y2.1 then
 k (y1.1,y1.1,y2.2.1,y2.2.2.1,y2.2.2.2)
 else
 vmu y2.2.1 y2.2.2.1 y2.2.2.2 (fun y3=>
 bif (vai y3.1 y1.1)then
 k (y3.1,y1.1,y3.2.1,y3.2.2.1,y3.2.2.2)
 else
 k (y1.1,y3.1,y3.2.1,y3.2.2.1,y3.2.2.2))))
def vxl:=shut v70
theorem wdd:vxl=v70:=val _
instance n76n_p (a0:(List Int))(a1:Int)(a2:Int):ParC (vxl a0 a1 a2):=by rw [wdd];unfold v70;(try dsimp only);infer_instance
def vm4 (x:q39T)(k:q39T⊕q39T→Option Res):Option Res:=
 vcu (4:Int) x.2.1 x.2.2.1 x.2.2.2.1 (fun y2=>
 bif (decide (x.1<y2.1))then
 vxl y2.2.1 y2.2.2.1 y2.2.2.2 (fun y3=>
 if x.2.2.2.2.length+[(y3.1,y3.2.1)].length≤VE.maxLen then
 k (.inl ((IntKind.wrap .i64 (x.1+(1:Int))),y3.2.2.1,y3.2.2.2.1,y3.2.2.2.2,(x.2.2.2.2++[(y3.1,y3.2.1)])))
 else none)
 else
 k (.inr (x.1,y2.2.1,y2.2.2.1,y2.2.2.2,x.2.2.2.2)))
instance n77n_bp0 (x:q39T):ParC (vm4 x):=by unfold vm4;(try dsimp only);infer_instance
def v8v (a0:(List Int))(a1:Int)(a2:Int)(k:q2T→Option Res):Option Res:=
 vak vm4 Fuel (0,a0,a1,a2,([]:List vad)) (fun z1=>
 k (z1.2.1,z1.2.2.1,z1.2.2.2.1,z1.2.2.2.2))
def vv1:=shut v8v
theorem we3:vv1=v8v:=val _
instance n77n_p (a0:(List Int))(a1:Int)(a2:Int):ParC (vv1 a0 a1 a2):=by rw [we3];unfold v8v;(try dsimp only);infer_instance
def vz8 (a0:(List Int))(a1:Int)(a2:Int)(k:q32T→Option Res):Option Res:=
 vmu a0 a1 a2 (fun y1=>
 vq5 [(⟨#[111,110,101]⟩:ByteArray),(⟨#[116,119,111]⟩:ByteArray),(⟨#[]⟩:ByteArray),(⟨#[120,0]⟩:ByteArray)] y1.2.1 y1.2.2.1 y1.2.2.2 (fun y2=>
 vnz (5:Int) y2.2.1 y2.2.2.1 y2.2.2.2 (fun y3=>
 bif y3.1 then
 k (y1.1,(⟨#[]⟩:ByteArray),true,y3.2.1,y3.2.2.1,y3.2.2.2)
 else
 k (y1.1,y2.1,false,y3.2.1,y3.2.2.1,y3.2.2.2))))
def vr0:=shut vz8
theorem v61:vr0=vz8:=val _
instance n78n_p (a0:(List Int))(a1:Int)(a2:Int):ParC (vr0 a0 a1 a2):=by rw [v61];unfold vz8;(try dsimp only);infer_instance
def vkz (x:q12T)(k:q12T⊕q12T→Option Res):Option Res:=
 bif (decide (x.2.1<(x.1.length:Int)))then
 if 0≤x.2.1∧x.2.1<(x.1.length:Int)then
 bif (vai ((rd (Ty.zero tWrite) x.1 x.2.1).1) x.2.2.1)then
 if 0≤x.2.1∧x.2.1<(x.1.length:Int)then
 if x.2.2.2.2.2.length+[(rd (Ty.zero tWrite) x.1 x.2.1)].length≤VE.maxLen then
 k (.inl (x.1,(IntKind.wrap .i64 (x.2.1+(1:Int))),x.2.2.1,x.2.2.2.1,x.2.2.2.2.1,(x.2.2.2.2.2++[(rd (Ty.zero tWrite) x.1 x.2.1)])))
 else none
 else none
 else
 k (.inl (x.1,(IntKind.wrap .i64 (x.2.1+1)),x.2.2.1,x.2.2.2.1,x.2.2.2.2.1,x.2.2.2.2.2))
 else none
 else
 k (.inr (x.1,x.2.1,x.2.2.1,x.2.2.2.1,x.2.2.2.2.1,x.2.2.2.2.2))
instance n52n_bp0 (x:q12T):ParC (vkz x):=by unfold vkz;(try dsimp only);infer_instance
def vj3 (x:q12T)(k:q12T⊕q12T→Option Res):Option Res:=
 bif (decide (x.2.1<(x.1.length:Int)))then
 if 0≤x.2.1∧x.2.1<(x.1.length:Int)then
 bif (!((vai ((rd (Ty.zero tWrite) x.1 x.2.1).1) x.2.2.1)||(vav ((rd (Ty.zero tWrite) x.1 x.2.1).1) x.2.2.1)))then
 if 0≤x.2.1∧x.2.1<(x.1.length:Int)then
 if x.2.2.2.2.2.length+[(rd (Ty.zero tWrite) x.1 x.2.1)].length≤VE.maxLen then
 k (.inl (x.1,(IntKind.wrap .i64 (x.2.1+(1:Int))),x.2.2.1,x.2.2.2.1,x.2.2.2.2.1,(x.2.2.2.2.2++[(rd (Ty.zero tWrite) x.1 x.2.1)])))
 else none
 else none
 else
 k (.inl (x.1,(IntKind.wrap .i64 (x.2.1+1)),x.2.2.1,x.2.2.2.1,x.2.2.2.2.1,x.2.2.2.2.2))
 else none
 else
 k (.inr (x.1,x.2.1,x.2.2.1,x.2.2.2.1,x.2.2.2.2.1,x.2.2.2.2.2))
instance n52n_bp2 (x:q12T):ParC (vj3 x):=by unfold vj3;(try dsimp only);infer_instance
def v7e (a0:(List vaa))(a1:vaa)(k:(List vaa)→Option Res):Option Res:=
 vak vkz Fuel (a0,0,a1.1,a1.2.1,a1.2.2,([]:List vaa)) (fun z1=>
 if z1.2.2.2.2.2.length+[(z1.2.2.1,(z1.2.2.2.1,z1.2.2.2.2.1))].length≤VE.maxLen then
 vak vj3 Fuel (z1.1,(0:Int),z1.2.2.1,z1.2.2.2.1,z1.2.2.2.2.1,(z1.2.2.2.2.2++[(z1.2.2.1,(z1.2.2.2.1,z1.2.2.2.2.1))])) (fun z2=>
 k z2.2.2.2.2.2)
 else none)
def vks:=shut v7e
theorem wcs:vks=v7e:=val _
instance n52n_p (a0:(List vaa))(a1:vaa):ParC (vks a0 a1):=by rw [wcs];unfold v7e;(try dsimp only);infer_instance
def vhe (x:q41T)(k:q41T⊕q41T→Option Res):Option Res:=
 vcu (4:Int) x.2.1 x.2.2.1 x.2.2.2.1 (fun y2=>
 bif (decide (x.1<y2.1))then
 vr0 y2.2.1 y2.2.2.1 y2.2.2.2 (fun y3=>
 vks x.2.2.2.2 (y3.1,(y3.2.1,y3.2.2.1)) (fun y4=>
 k (.inl ((IntKind.wrap .i64 (x.1+1)),y3.2.2.2.1,y3.2.2.2.2.1,y3.2.2.2.2.2,y4))))
 else
 k (.inr (x.1,y2.2.1,y2.2.2.1,y2.2.2.2,x.2.2.2.2)))
instance n79n_bp0 (x:q41T):ParC (vhe x):=by unfold vhe;(try dsimp only);infer_instance
def v2q (a0:(List Int))(a1:Int)(a2:Int)(k:q4T→Option Res):Option Res:=
 vak vhe Fuel (0,a0,a1,a2,([]:List vaa)) (fun z1=>
 k (z1.2.1,z1.2.2.1,z1.2.2.2.1,z1.2.2.2.2))
def vpw:=shut v2q
theorem v78:vpw=v2q:=val _
instance n79n_p (a0:(List Int))(a1:Int)(a2:Int):ParC (vpw a0 a1 a2):=by rw [v78];unfold v2q;(try dsimp only);infer_instance
def v8j (a0:(List Int))(a1:Int)(a2:Int)(k:q48T→Option Res):Option Res:=
 vcu (6:Int) a0 a1 a2 (fun y1=>
 vcu (3:Int) y1.2.1 y1.2.2.1 y1.2.2.2 (fun y2=>
 vcu (6:Int) y2.2.1 y2.2.2.1 y2.2.2.2 (fun y3=>
 vv1 y3.2.1 y3.2.2.1 y3.2.2.2 (fun y4=>
 vpw y4.1 y4.2.1 y4.2.2.1 (fun y5=>
 bif ((IntKind.wrap .i64 ((1:Int)+y2.1))==(2:Int))then
 vmu y5.1 y5.2.1 y5.2.2.1 (fun y6=>
 vnz (2:Int) y6.2.1 y6.2.2.1 y6.2.2.2 (fun y7=>
 k ((IntKind.wrap .i64 ((1:Int)+y1.1)),(IntKind.wrap .i64 ((1:Int)+y2.1)),y3.1,0,y7.1,y6.1,y7.2.1,y7.2.2.1,y7.2.2.2,y4.2.2.2,y5.2.2.2)))
 else
 bif ((IntKind.wrap .i64 ((1:Int)+y2.1))==(3:Int))then
 vcu (4:Int) y5.1 y5.2.1 y5.2.2.1 (fun y8=>
 vnz (2:Int) y8.2.1 y8.2.2.1 y8.2.2.2 (fun y9=>
 k ((IntKind.wrap .i64 ((1:Int)+y1.1)),(IntKind.wrap .i64 ((1:Int)+y2.1)),y3.1,(IntKind.wrap .i64 ((IntKind.wrap .i64 (y3.1+1))+y8.1)),y9.1,(⟨#[]⟩:ByteArray),y9.2.1,y9.2.2.1,y9.2.2.2,y4.2.2.2,y5.2.2.2)))
 else
 k ((IntKind.wrap .i64 ((1:Int)+y1.1)),(IntKind.wrap .i64 ((1:Int)+y2.1)),y3.1,0,false,(⟨#[]⟩:ByteArray),y5.1,y5.2.1,y5.2.2.1,y4.2.2.2,y5.2.2.2))))))
def v0e:=shut v8j
theorem wgf:v0e=v8j:=val _
instance n89n_p (a0:(List Int))(a1:Int)(a2:Int):ParC (v0e a0 a1 a2):=by rw [wgf];unfold v8j;(try dsimp only);exact⟨((n64n_p _ _ _ _).p.bind fun y1=>((n64n_p _ _ _ _).p.bind fun y2=>((n64n_p _ _ _ _).p.bind fun y3=>((n77n_p _ _ _).p.bind fun y4=>((n79n_p _ _ _).p.bind fun y5=>(vaj ((n75n_p _ _ _).p.bind fun y6=>((n69n_p _ _ _ _).p.bind fun y7=>(vag _))) (vaj ((n64n_p _ _ _ _).p.bind fun y8=>((n69n_p _ _ _ _).p.bind fun y9=>(vag _))) (vag _))))))))⟩
def v0l (a0:dTxn)(k:q49T→Option Res):Option Res:=
 if([]:List vad).length+a0.2.2.2.2.1.length≤VE.maxLen then
 if([]:List vaa).length+a0.2.2.2.2.2.1.length≤VE.maxLen then
 k (a0.1,a0.2.1,a0.2.2.1,a0.2.2.2.1,a0.2.2.2.2.2.2.1,a0.2.2.2.2.2.2.2,(([]:List vad)++a0.2.2.2.2.1),(([]:List vaa)++a0.2.2.2.2.2.1))
 else none
 else none
def vjy:=shut v0l
theorem v8p:vjy=v0l:=val _
instance n85n_p (a0:dTxn):ParC (vjy a0):=by rw [v8p];unfold v0l;(try dsimp only);infer_instance
def vm2 (x:(Int×Int×Int×(List Int)))(k:(Int×Int×Int×(List Int))⊕(Int×Int×Int×(List Int))→Option Res):Option Res:=
 bif (decide (x.2.2.1<x.1))then
 if 0≤x.2.2.1∧x.2.2.1<(x.2.2.2.length:Int)then
 k (.inl (x.1,x.2.1,(IntKind.wrap .i64 (x.2.2.1+1)),(x.2.2.2.set x.2.2.1.toNat x.2.1)))
 else none
 else
 k (.inr (x.1,x.2.1,x.2.2.1,x.2.2.2))
instance n67n_bp0 (x:(Int×Int×Int×(List Int))):ParC (vm2 x):=by unfold vm2;(try dsimp only);infer_instance
def v59 (a0:Int)(a1:Int)(k:ByteArray→Option Res):Option Res:=
 if 0≤a0∧a0≤a0∧a0≤(VE.maxLen:Int)then
 vak vm2 Fuel (a0,a1,0,(List.replicate a0.toNat (Ty.zero (.int .u8)))) (fun z1=>
 k (va3 z1.2.2.2))
 else none
def vxc:=shut v59
theorem wd7:vxc=v59:=val _
instance n67n_p (a0:Int)(a1:Int):ParC (vxc a0 a1):=by rw [wd7];unfold v59;(try dsimp only);infer_instance
def v7z (a0:(List Int))(a1:Int)(a2:Int)(k:q32T→Option Res):Option Res:=
 vr0 a0 a1 a2 (fun y1=>
 vcu (8:Int) y1.2.2.2.1 y1.2.2.2.2.1 y1.2.2.2.2.2 (fun y2=>
 bif (y2.1==(0:Int))then
 vq5 [(⟨#[]⟩:ByteArray),(⟨#[65]⟩:ByteArray),(⟨#[97,98,99,100]⟩:ByteArray),(⟨#[97,98,99]⟩:ByteArray)] y2.2.1 y2.2.2.1 y2.2.2.2 (fun y3=>
 k (y3.1,y1.2.1,y1.2.2.1,y3.2.1,y3.2.2.1,y3.2.2.2))
 else
 bif (y2.1==(1:Int))then
 vcu (2:Int) y2.2.1 y2.2.2.1 y2.2.2.2 (fun y4=>
 vxc (IntKind.wrap .i64 ((12:Int)+y4.1)) (97:Int) (fun y5=>
 k (y1.1,y5,y1.2.2.1,y4.2.1,y4.2.2.1,y4.2.2.2)))
 else
 bif (y2.1==(2:Int))then
 k (y1.1,y1.2.1,true,y2.2.1,y2.2.2.1,y2.2.2.2)
 else
 k (y1.1,y1.2.1,y1.2.2.1,y2.2.1,y2.2.2.1,y2.2.2.2)))
def vxu:=shut v7z
theorem wfg:vxu=v7z:=val _
instance n74n_p (a0:(List Int))(a1:Int)(a2:Int):ParC (vxu a0 a1 a2):=by rw [wfg];unfold v7z;(try dsimp only);infer_instance
def v51 (a0:(List Int))(a1:Int)(a2:Int)(k:q48T→Option Res):Option Res:=
 vcu (12:Int) a0 a1 a2 (fun y1=>
 vcu (60:Int) y1.2.1 y1.2.2.1 y1.2.2.2 (fun y2=>
 v0e y2.2.1 y2.2.2.1 y2.2.2.2 (fun y3=>
 let y3h:=y3.2.2.2.2.2.2.2.2
 vjy (y3.1,(y3.2.1,(y3.2.2.1,(y3.2.2.2.1,(y3h.2.1,(y3h.2.2,(y3.2.2.2.2.1,y3.2.2.2.2.2.1))))))) (fun y4=>
 bif (y1.1==(0:Int))then
 if 0≤(y2.1.tmod (3:Int))∧(y2.1.tmod (3:Int))<([(0:Int),(9999:Int),(10000:Int)].length:Int)then
 k (([(0:Int),(9999:Int),(10000:Int)].getD (y2.1.tmod (3:Int)).toNat (Ty.zero (.i))),y4.2.1,y4.2.2.1,y4.2.2.2.1,y4.2.2.2.2.1,y4.2.2.2.2.2.1,y3.2.2.2.2.2.2.1,y3.2.2.2.2.2.2.2.1,y3h.1,y4.2.2.2.2.2.2.1,y4.2.2.2.2.2.2.2)
 else none
 else
 bif (y1.1==(1:Int))then
 k (y4.1,(y2.1.tmod (5:Int)),y4.2.2.1,y4.2.2.2.1,y4.2.2.2.2.1,y4.2.2.2.2.2.1,y3.2.2.2.2.2.2.1,y3.2.2.2.2.2.2.2.1,y3h.1,y4.2.2.2.2.2.2.1,y4.2.2.2.2.2.2.2)
 else
 bif (y1.1==(2:Int))then
 k (y4.1,y4.2.1,y4.2.2.1,(y2.1.tmod (4:Int)),y4.2.2.2.2.1,y4.2.2.2.2.2.1,y3.2.2.2.2.2.2.1,y3.2.2.2.2.2.2.2.1,y3h.1,y4.2.2.2.2.2.2.1,y4.2.2.2.2.2.2.2)
 else
 bif (y1.1==(3:Int))then
 if 0≤(y2.1.tmod (3:Int))∧(y2.1.tmod (3:Int))<([(⟨#[]⟩:ByteArray),(⟨#[65]⟩:ByteArray),(⟨#[97,98]⟩:ByteArray)].length:Int)then
 k (y4.1,y4.2.1,y4.2.2.1,y4.2.2.2.1,y4.2.2.2.2.1,([(⟨#[]⟩:ByteArray),(⟨#[65]⟩:ByteArray),(⟨#[97,98]⟩:ByteArray)].getD (y2.1.tmod (3:Int)).toNat (Ty.zero .str)),y3.2.2.2.2.2.2.1,y3.2.2.2.2.2.2.2.1,y3h.1,y4.2.2.2.2.2.2.1,y4.2.2.2.2.2.2.2)
 else none
 else
 bif (y1.1==(4:Int))then
 if y4.2.2.2.2.2.2.1.length+[((⟨#[98]⟩:ByteArray),(⟨#[97]⟩:ByteArray))].length≤VE.maxLen then
 k (y4.1,y4.2.1,y4.2.2.1,y4.2.2.2.1,y4.2.2.2.2.1,y4.2.2.2.2.2.1,y3.2.2.2.2.2.2.1,y3.2.2.2.2.2.2.2.1,y3h.1,(y4.2.2.2.2.2.2.1++[((⟨#[98]⟩:ByteArray),(⟨#[97]⟩:ByteArray))]),y4.2.2.2.2.2.2.2)
 else none
 else
 bif (y1.1==(5:Int))then
 vxu y3.2.2.2.2.2.2.1 y3.2.2.2.2.2.2.2.1 y3h.1 (fun y5=>
 if y4.2.2.2.2.2.2.2.length+[(y5.1,(y5.2.1,y5.2.2.1))].length≤VE.maxLen then
 k (y4.1,y4.2.1,y4.2.2.1,y4.2.2.2.1,y4.2.2.2.2.1,y4.2.2.2.2.2.1,y5.2.2.2.1,y5.2.2.2.2.1,y5.2.2.2.2.2,y4.2.2.2.2.2.2.1,(y4.2.2.2.2.2.2.2++[(y5.1,(y5.2.1,y5.2.2.1))]))
 else none)
 else
 bif (y1.1==(6:Int))then
 k (y4.1,y4.2.1,y4.2.2.1,y4.2.2.2.1,true,y4.2.2.2.2.2.1,y3.2.2.2.2.2.2.1,y3.2.2.2.2.2.2.2.1,y3h.1,y4.2.2.2.2.2.2.1,y4.2.2.2.2.2.2.2)
 else
 k (y4.1,y4.2.1,y4.2.2.1,y4.2.2.2.1,y4.2.2.2.2.1,y4.2.2.2.2.2.1,y3.2.2.2.2.2.2.1,y3.2.2.2.2.2.2.2.1,y3h.1,y4.2.2.2.2.2.2.1,y4.2.2.2.2.2.2.2)))))
def voh:=shut v51
theorem we7:voh=v51:=val _
instance n83n_p (a0:(List Int))(a1:Int)(a2:Int):ParC (voh a0 a1 a2):=by rw [we7];unfold v51;(try dsimp only);exact⟨((n64n_p _ _ _ _).p.bind fun y1=>((n64n_p _ _ _ _).p.bind fun y2=>((n89n_p _ _ _).p.bind fun y3=>((n85n_p _).p.bind fun y4=>(vaj (vbf (vag _) vax) (vaj (vag _) (vaj (vag _) (vaj (vbf (vag _) vax) (vaj (vbf (vag _) vax) (vaj ((n74n_p _ _ _).p.bind fun y5=>(vbf (vag _) vax)) (vaj (vag _) (vag _))))))))))))⟩
def v8t (a0:(List Int))(k:q49T→Option Res):Option Res:=
 vn1 a0 (fun y1=>
 voh y1.1 y1.2.1 y1.2.2 (fun y2=>
 let y2h:=y2.2.2.2.2.2.2.2.2
 k (y2.1,y2.2.1,y2.2.2.1,y2.2.2.2.1,y2.2.2.2.2.1,y2.2.2.2.2.2.1,y2h.2.1,y2h.2.2)))
def v0y:=shut v8t
theorem wbw:v0y=v8t:=val _
instance n47n_p (a0:(List Int)):ParC (v0y a0):=by rw [wbw];unfold v8t;(try dsimp only);infer_instance
def v53 (a0:Int)(a1:Int)(a2:Int)(k:Bool→Option Res):Option Res:=
 bif (decide (a0≥a1))then
 k (decide (a0≤a2))
 else
 k false
def vfp:=shut v53
theorem wd2:vfp=v53:=val _
instance n34n_p (a0:Int)(a1:Int)(a2:Int):ParC (vfp a0 a1 a2):=by rw [wd2];unfold v53;(try dsimp only);infer_instance
def vld (x:(ByteArray×Bool×Int))(k:(ByteArray×Bool×Int)⊕((ByteArray×Bool×Int)⊕(ByteArray×Bool×Int))→Option Res):Option Res:=
 bif (decide (x.2.2<(x.1.size:Int)))then
 if 0≤x.2.2∧x.2.2<(x.1.size:Int)then
 bif (decide ((bt x.1 x.2.2)<(97:Int)))then
 k (.inr (.inl (x.1,false,x.2.2)))
 else
 if 0≤x.2.2∧x.2.2<(x.1.size:Int)then
 bif (decide ((bt x.1 x.2.2)>(122:Int)))then
 k (.inr (.inl (x.1,false,x.2.2)))
 else
 k (.inl (x.1,x.2.1,(IntKind.wrap .i64 (x.2.2+1))))
 else none
 else none
 else
 k (.inr (.inr (x.1,x.2.1,x.2.2)))
instance n00n_bp0 (x:(ByteArray×Bool×Int)):ParC (vld x):=by unfold vld;(try dsimp only);infer_instance
def v72 (a0:ByteArray)(k:Bool→Option Res):Option Res:=
 vak vld Fuel (a0,false,0) (Sum.elim (fun z1=>
 k z1.2.1) (fun z2=>
 vfp (z2.1.size:Int) (1:Int) (3:Int) (fun y3=>
 k y3)))
def vmt:=shut v72
theorem we6:vmt=v72:=val _
instance n00n_p (a0:ByteArray):ParC (vmt a0):=by rw [we6];unfold v72;(try dsimp only);infer_instance
def v9m (a0:vad)(k:Bool→Option Res):Option Res:=
 vmt a0.1 (fun y1=>
 bif y1 then
 vmt a0.2 (fun y2=>
 bif y2 then
 k ((vai a0.1 a0.2)||(vav a0.1 a0.2))
 else
 k false)
 else
 k false)
def vqe:=shut v9m
theorem wfp:vqe=v9m:=val _
instance n03n_p (a0:vad):ParC (vqe a0):=by rw [wfp];unfold v9m;(try dsimp only);infer_instance
def v9l (a0:vaa)(k:Bool→Option Res):Option Res:=
 vmt a0.1 (fun y1=>
 bif y1 then
 bif (decide ((a0.2.1.size:Int)≤(12:Int)))then
 bif (!a0.2.2)then
 k true
 else
 k (vav a0.2.1 (⟨#[]⟩:ByteArray))
 else
 k false
 else
 k false)
def vp3:=shut v9l
theorem wem:vp3=v9l:=val _
instance n14n_p (a0:vaa):ParC (vp3 a0):=by rw [wem];unfold v9l;(try dsimp only);infer_instance
def vk8 (x:q11T)(k:q11T⊕(q11T⊕q11T)→Option Res):Option Res:=
 bif (decide (x.2.2.2.2<x.2.2.2.1))then
 if 0≤x.2.2.2.2∧x.2.2.2.2<(x.2.2.1.length:Int)then
 vp3 (rd (Ty.zero tWrite) x.2.2.1 x.2.2.2.2) (fun y3=>
 bif (!y3)then
 k (.inr (.inl (x.1,false,x.2.2.1,x.2.2.2.1,x.2.2.2.2)))
 else
 bif (decide (x.2.2.2.2>0))then
 if 0≤(IntKind.wrap .i64 (x.2.2.2.2-1))∧(IntKind.wrap .i64 (x.2.2.2.2-1))<(x.1.length:Int)then
 bif (!(vai ((rd (Ty.zero tWrite) x.1 (IntKind.wrap .i64 (x.2.2.2.2-1))).1) ((rd (Ty.zero tWrite) x.2.2.1 x.2.2.2.2).1)))then
 k (.inr (.inl (x.1,false,x.2.2.1,x.2.2.2.1,x.2.2.2.2)))
 else
 k (.inl (x.1,x.2.1,x.2.2.1,x.2.2.2.1,(IntKind.wrap .i64 (x.2.2.2.2+1))))
 else none
 else
 k (.inl (x.1,x.2.1,x.2.2.1,x.2.2.2.1,(IntKind.wrap .i64 (x.2.2.2.2+1)))))
 else none
 else
 k (.inr (.inr (x.1,x.2.1,x.2.2.1,x.2.2.2.1,x.2.2.2.2)))
instance n15n_bp0 (x:q11T):ParC (vk8 x):=by unfold vk8;(try dsimp only);infer_instance
def v8s (a0:(List vaa))(k:Bool→Option Res):Option Res:=
 vak vk8 Fuel (a0,false,a0,(a0.length:Int),0) (Sum.elim (fun z1=>
 k z1.2.1) (fun z2=>
 k (decide ((z2.1.length:Int)≤(8:Int)))))
def vs8:=shut v8s
theorem wb9:vs8=v8s:=val _
instance n15n_p (a0:(List vaa)):ParC (vs8 a0):=by rw [wb9];unfold v8s;(try dsimp only);infer_instance
def vb3 (x:q24T)(k:q24T→Option Res):Option Res:=
 let xh:=x.2.2.2.2.2.2.2.2
 bif (x.2.2.1==(2:Int))then
 vmt xh (fun y15=>
 bif y15 then
 k (true,x.2.1,x.2.2.1,x.2.2.2.1,x.2.2.2.2.1,x.2.2.2.2.2.1,x.2.2.2.2.2.2.1,x.2.2.2.2.2.2.2.1,xh)
 else
 bif (x.2.2.1 != (2:Int))then
 k ((vav xh (⟨#[]⟩:ByteArray)),x.2.1,x.2.2.1,x.2.2.2.1,x.2.2.2.2.1,x.2.2.2.2.2.1,x.2.2.2.2.2.2.1,x.2.2.2.2.2.2.2.1,xh)
 else
 k (false,x.2.1,x.2.2.1,x.2.2.2.1,x.2.2.2.2.1,x.2.2.2.2.2.1,x.2.2.2.2.2.2.1,x.2.2.2.2.2.2.2.1,xh))
 else
 bif (x.2.2.1 != (2:Int))then
 k ((vav xh (⟨#[]⟩:ByteArray)),x.2.1,x.2.2.1,x.2.2.2.1,x.2.2.2.2.1,x.2.2.2.2.2.1,x.2.2.2.2.2.2.1,x.2.2.2.2.2.2.2.1,xh)
 else
 k (false,x.2.1,x.2.2.1,x.2.2.2.1,x.2.2.2.2.1,x.2.2.2.2.2.1,x.2.2.2.2.2.2.1,x.2.2.2.2.2.2.2.1,xh)
instance n10n_jp5000011 (x:q24T):ParC (vb3 x):=by unfold vb3;(try dsimp only);infer_instance
def vcy (x:q24T)(k:q24T→Option Res):Option Res:=
 let xh:=x.2.2.2.2.2.2.2.2
 let t0:=(x.1,x.2.1,x.2.2.1,x.2.2.2.1,x.2.2.2.2.1,x.2.2.2.2.2.1,x.2.2.2.2.2.2.1,x.2.2.2.2.2.2.2.1,xh)
 let t1:=(false,x.2.1,x.2.2.1,x.2.2.2.1,x.2.2.2.2.1,x.2.2.2.2.2.1,x.2.2.2.2.2.2.1,x.2.2.2.2.2.2.2.1,xh)
 bif (x.2.2.1==(3:Int))then
 vfp x.2.2.2.2.1 (IntKind.wrap .i64 (x.2.2.2.1+1)) (9999:Int) (fun y10=>
 bif (!y10)then
 k t1
 else
 bif (x.2.2.1 != (3:Int))then
 bif (x.2.2.2.2.1 != (0:Int))then
 k t1
 else
 vb3 t0 (fun z11=>
 k (z11.1,z11.2.1,z11.2.2.1,z11.2.2.2.1,z11.2.2.2.2.1,z11.2.2.2.2.2.1,z11.2.2.2.2.2.2.1,z11.2.2.2.2.2.2.2.1,z11.2.2.2.2.2.2.2.2))
 else
 vb3 t0 (fun z12=>
 k (z12.1,z12.2.1,z12.2.2.1,z12.2.2.2.1,z12.2.2.2.2.1,z12.2.2.2.2.2.1,z12.2.2.2.2.2.2.1,z12.2.2.2.2.2.2.2.1,z12.2.2.2.2.2.2.2.2)))
 else
 bif (x.2.2.1 != (3:Int))then
 bif (x.2.2.2.2.1 != (0:Int))then
 k t1
 else
 vb3 t0 (fun z13=>
 k (z13.1,z13.2.1,z13.2.2.1,z13.2.2.2.1,z13.2.2.2.2.1,z13.2.2.2.2.2.1,z13.2.2.2.2.2.2.1,z13.2.2.2.2.2.2.2.1,z13.2.2.2.2.2.2.2.2))
 else
 vb3 t0 (fun z14=>
 k (z14.1,z14.2.1,z14.2.2.1,z14.2.2.2.1,z14.2.2.2.2.1,z14.2.2.2.2.2.1,z14.2.2.2.2.2.2.1,z14.2.2.2.2.2.2.2.1,z14.2.2.2.2.2.2.2.2))
instance n10n_jp5000009 (x:q24T):ParC (vcy x):=by unfold vcy;(try dsimp only);exact⟨(vaj ((n34n_p _ _ _).p.bind fun y10=>(vaj (vag _) (vaj (vaj (vag _) ((n10n_jp5000011 _).p.bind fun z11=>(vag _))) ((n10n_jp5000011 _).p.bind fun z12=>(vag _))))) (vaj (vaj (vag _) ((n10n_jp5000011 _).p.bind fun z13=>(vag _))) ((n10n_jp5000011 _).p.bind fun z14=>(vag _))))⟩
def vka (x:q17T)(k:q17T⊕(q17T⊕q17T)→Option Res):Option Res:=
 let xh:=x.2.2.2.2.2.2.2.2
 bif (decide (x.2.2.2.1<x.2.2.1))then
 if 0≤x.2.2.2.1∧x.2.2.2.1<(x.2.1.length:Int)then
 vqe (rd (Ty.zero tRange) x.2.1 x.2.2.2.1) (fun y9=>
 bif (!y9)then
 k (.inr (.inl (false,x.2.1,x.2.2.1,x.2.2.2.1,x.2.2.2.2.1,x.2.2.2.2.2.1,x.2.2.2.2.2.2.1,x.2.2.2.2.2.2.2.1,xh.1,xh.2.1,xh.2.2.1,xh.2.2.2)))
 else
 k (.inl (x.1,x.2.1,x.2.2.1,(IntKind.wrap .i64 (x.2.2.2.1+1)),x.2.2.2.2.1,x.2.2.2.2.2.1,x.2.2.2.2.2.2.1,x.2.2.2.2.2.2.2.1,xh.1,xh.2.1,xh.2.2.1,xh.2.2.2)))
 else none
 else
 k (.inr (.inr (x.1,x.2.1,x.2.2.1,x.2.2.2.1,x.2.2.2.2.1,x.2.2.2.2.2.1,x.2.2.2.2.2.2.1,x.2.2.2.2.2.2.2.1,xh.1,xh.2.1,xh.2.2.1,xh.2.2.2)))
instance n10n_bp0 (x:q17T):ParC (vka x):=by unfold vka;(try dsimp only);infer_instance
def v75 (a0:dTxn)(k:Bool→Option Res):Option Res:=
 vak vka Fuel (false,a0.2.2.2.2.1,(a0.2.2.2.2.1.length:Int),0,a0.1,a0.2.1,a0.2.2.1,a0.2.2.2.1,a0.2.2.2.2.1,a0.2.2.2.2.2.1,a0.2.2.2.2.2.2.1,a0.2.2.2.2.2.2.2) (Sum.elim (fun z1=>
 k z1.1) (fun z2=>
 let z2h:=z2.2.2.2.2.2.2.2.2
 vfp z2.2.2.2.2.1 (1:Int) (9999:Int) (fun y3=>
 bif (!y3)then
 k false
 else
 vfp z2.2.2.2.2.2.1 (1:Int) (3:Int) (fun y4=>
 bif (!y4)then
 k false
 else
 vfp z2.2.2.2.2.2.2.1 (0:Int) (9999:Int) (fun y5=>
 bif (!y5)then
 k false
 else
 bif (decide ((z2h.1.length:Int)>(8:Int)))then
 k false
 else
 vs8 z2h.2.1 (fun y6=>
 bif (!y6)then
 k false
 else
 bif z2h.2.2.1 then
 bif (z2.2.2.2.2.2.1==(1:Int))then
 k false
 else
 vcy (z2.1,z2.2.2.2.2.1,z2.2.2.2.2.2.1,z2.2.2.2.2.2.2.1,z2.2.2.2.2.2.2.2.1,z2h.1,z2h.2.1,z2h.2.2.1,z2h.2.2.2) (fun z7=>
 k z7.1)
 else
 vcy (z2.1,z2.2.2.2.2.1,z2.2.2.2.2.2.1,z2.2.2.2.2.2.2.1,z2.2.2.2.2.2.2.2.1,z2h.1,z2h.2.1,z2h.2.2.1,z2h.2.2.2) (fun z8=>
 k z8.1)))))))
def vgp:=shut v75
theorem wgy:vgp=v75:=val _
instance n10n_p (a0:dTxn):ParC (vgp a0):=by rw [wgy];unfold v75;(try dsimp only);exact⟨((ve1 (fun x=>(n10n_bp0 x).p) _ _).bind2 (fun z1=>(vag _)) (fun z2=>((n34n_p _ _ _).p.bind fun y3=>(vaj (vag _) ((n34n_p _ _ _).p.bind fun y4=>(vaj (vag _) ((n34n_p _ _ _).p.bind fun y5=>(vaj (vag _) (vaj (vag _) ((n15n_p _).p.bind fun y6=>(vaj (vag _) (vaj (vaj (vag _) ((n10n_jp5000009 _).p.bind fun z7=>(vag _))) ((n10n_jp5000009 _).p.bind fun z8=>(vag _))))))))))))))⟩
def vhi (x:(Int×(List Int)))(k:(Int×(List Int))⊕(Int×(List Int))→Option Res):Option Res:=
 bif (decide (x.1>127))then
 if x.2.length+[(IntKind.wrap .u8 (IntKind.wrap .i64 ((x.1.tmod (128:Int))+(128:Int))))].length≤VE.maxLen then
 k (.inl ((IntKind.wrap .i64 (x.1.tdiv (128:Int))),(x.2++[(IntKind.wrap .u8 (IntKind.wrap .i64 ((x.1.tmod (128:Int))+(128:Int))))])))
 else none
 else
 k (.inr (x.1,x.2))
instance n12n_bp0 (x:(Int×(List Int))):ParC (vhi x):=by unfold vhi;(try dsimp only);infer_instance
def v0s (a0:Int)(k:(ByteArray×Bool)→Option Res):Option Res:=
 vfp a0 (0:Int) (1000000000:Int) (fun y1=>
 bif (!y1)then
 k ((⟨#[]⟩:ByteArray),false)
 else
 vak vhi Fuel (a0,([]:List Int)) (fun z2=>
 if z2.2.length+[(IntKind.wrap .u8 z2.1)].length≤VE.maxLen then
 k ((va3 (z2.2++[(IntKind.wrap .u8 z2.1)])),true)
 else none))
def vj9:=shut v0s
theorem v9k:vj9=v0s:=val _
instance n12n_p (a0:Int):ParC (vj9 a0):=by rw [v9k];unfold v0s;(try dsimp only);infer_instance
def vlb (x:q1T)(k:q1T⊕q1T→Option Res):Option Res:=
 bif (decide (x.2.2.1<x.2.1))then
 if 0≤x.2.2.1∧x.2.2.1<(x.1.length:Int)then
 vj9 (rd (Ty.zero (.i)) x.1 x.2.2.1) (fun y2=>
 if x.2.2.2.length+(vaf y2.1).length≤VE.maxLen then
 k (.inl (x.1,x.2.1,(IntKind.wrap .i64 (x.2.2.1+1)),(x.2.2.2++(vaf y2.1))))
 else none)
 else none
 else
 k (.inr (x.1,x.2.1,x.2.2.1,x.2.2.2))
instance n21n_bp0 (x:q1T):ParC (vlb x):=by unfold vlb;(try dsimp only);infer_instance
def v6l (a0:(List Int))(k:(List Int)→Option Res):Option Res:=
 vak vlb Fuel (a0,(a0.length:Int),0,([]:List Int)) (fun z1=>
 k z1.2.2.2)
def vsm:=shut v6l
theorem wby:vsm=v6l:=val _
instance n21n_p (a0:(List Int)):ParC (vsm a0):=by rw [wby];unfold v6l;(try dsimp only);infer_instance
def v6q (a0:ByteArray)(k:(ByteArray×Bool)→Option Res):Option Res:=
 bif (decide ((a0.size:Int)>(20000:Int)))then
 k ((⟨#[]⟩:ByteArray),false)
 else
 vj9 (a0.size:Int) (fun y1=>
 if y1.1.size+a0.size≤1099511627776 then
 k ((y1.1++a0),true)
 else none)
def vxt:=shut v6q
theorem wf6:vxt=v6q:=val _
instance n09n_p (a0:ByteArray):ParC (vxt a0):=by rw [wf6];unfold v6q;(try dsimp only);infer_instance
def vln (x:(q0T⊕q0T))(k:(q0T⊕q0T)⊕(q0T⊕q0T)→Option Res):Option Res:=
 (Sum.elim (fun x=>
 bif (decide (x.2.2.1<x.2.1))then
 if 0≤x.2.2.1∧x.2.2.1<(x.1.length:Int)then
 vxt (rd (Ty.zero .str) x.1 x.2.2.1) (fun y3=>
 if x.2.2.2.length+(vaf y3.1).length≤VE.maxLen then
 k (.inl (.inr (x.1,x.2.1,(IntKind.wrap .i64 (x.2.2.1+1)),(x.2.2.2++(vaf y3.1)))))
 else none)
 else none
 else
 k (.inr (.inl (x.1,x.2.1,x.2.2.1,x.2.2.2)))) (fun x=>
 bif (decide (x.2.2.1<x.2.1))then
 if 0≤x.2.2.1∧x.2.2.1<(x.1.length:Int)then
 vxt (rd (Ty.zero .str) x.1 x.2.2.1) (fun y4=>
 if x.2.2.2.length+(vaf y4.1).length≤VE.maxLen then
 k (.inl (.inr (x.1,x.2.1,(IntKind.wrap .i64 (x.2.2.1+1)),(x.2.2.2++(vaf y4.1)))))
 else none)
 else none
 else
 k (.inr (.inr (x.1,x.2.1,x.2.2.1,x.2.2.2))))) x
instance n23n_bp0 (x:(q0T⊕q0T)):ParC (vln x):=by
 unfold vln
 rcases x with x|x
 ·simp only [Sum.elim_inl]
  infer_instance
 ·simp only [Sum.elim_inr]
  (try dsimp only)
  infer_instance
def v03 (a0:(List ByteArray))(a1:(List Int))(k:((List Int)⊕(List Int))→Option Res):Option Res:=
 vak vln Fuel (.inl (a0,(a0.length:Int),0,a1)) (Sum.elim (fun z1=>
 k (.inl z1.2.2.2)) (fun z2=>
 k (.inr z2.2.2.2)))
def vir:=shut v03
theorem v67:vir=v03:=val _
instance n23n_p (a0:(List ByteArray))(a1:(List Int)):ParC (vir a0 a1):=by rw [v67];unfold v03;(try dsimp only);infer_instance
def vm0 (x:(q1T⊕q1T))(k:(q1T⊕q1T)⊕(q1T⊕q1T)→Option Res):Option Res:=
 (Sum.elim (fun x=>
 bif (decide (x.2.2.1<x.2.1))then
 if 0≤x.2.2.1∧x.2.2.1<(x.1.length:Int)then
 vj9 (rd (Ty.zero (.i)) x.1 x.2.2.1) (fun y3=>
 if x.2.2.2.length+(vaf y3.1).length≤VE.maxLen then
 k (.inl (.inr (x.1,x.2.1,(IntKind.wrap .i64 (x.2.2.1+1)),(x.2.2.2++(vaf y3.1)))))
 else none)
 else none
 else
 k (.inr (.inl (x.1,x.2.1,x.2.2.1,x.2.2.2)))) (fun x=>
 bif (decide (x.2.2.1<x.2.1))then
 if 0≤x.2.2.1∧x.2.2.1<(x.1.length:Int)then
 vj9 (rd (Ty.zero (.i)) x.1 x.2.2.1) (fun y4=>
 if x.2.2.2.length+(vaf y4.1).length≤VE.maxLen then
 k (.inl (.inr (x.1,x.2.1,(IntKind.wrap .i64 (x.2.2.1+1)),(x.2.2.2++(vaf y4.1)))))
 else none)
 else none
 else
 k (.inr (.inr (x.1,x.2.1,x.2.2.1,x.2.2.2))))) x
instance n22n_bp0 (x:(q1T⊕q1T)):ParC (vm0 x):=by
 unfold vm0
 rcases x with x|x
 ·simp only [Sum.elim_inl]
  infer_instance
 ·simp only [Sum.elim_inr]
  (try dsimp only)
  infer_instance
def v84 (a0:(List Int))(a1:(List Int))(k:((List Int)⊕(List Int))→Option Res):Option Res:=
 vak vm0 Fuel (.inl (a0,(a0.length:Int),0,a1)) (Sum.elim (fun z1=>
 k (.inl z1.2.2.2)) (fun z2=>
 k (.inr z2.2.2.2)))
def vw8:=shut v84
theorem wfb:vw8=v84:=val _
instance n22n_p (a0:(List Int))(a1:(List Int)):ParC (vw8 a0 a1):=by rw [wfb];unfold v84;(try dsimp only);infer_instance
def vdp (x:(Int×(List Int)))(k:(Int×(List Int))→Option Res):Option Res:=
 if x.2.length+[x.1].length≤VE.maxLen then
 k (x.1,(x.2++[x.1]))
 else none
instance n20n_jp5000003 (x:(Int×(List Int))):ParC (vdp x):=by unfold vdp;(try dsimp only);infer_instance
def v55 (a0:Bool)(a1:(List Int))(k:(List Int)→Option Res):Option Res:=
 bif a0 then
 vdp (1,a1) (fun z1=>
 k z1.2)
 else
 vdp (0,a1) (fun z2=>
 k z2.2)
def vjx:=shut v55
theorem wcp:vjx=v55:=val _
instance n20n_p (a0:Bool)(a1:(List Int)):ParC (vjx a0 a1):=by rw [wcp];unfold v55;(try dsimp only);infer_instance
def vlj (x:q6T)(k:q6T⊕q6T→Option Res):Option Res:=
 let xh:=x.2.2.2.2.2.2.2.2
 bif (decide (x.2.2.1<x.2.1))then
 if 0≤x.2.2.1∧x.2.2.1<(x.1.length:Int)then
 vir [(rd (Ty.zero tRange) x.1 x.2.2.1).1,(rd (Ty.zero tRange) x.1 x.2.2.1).2] xh.2.2.2 (Sum.elim (fun y14=>
 k (.inl (x.1,x.2.1,(IntKind.wrap .i64 (x.2.2.1+1)),x.2.2.2.1,x.2.2.2.2.1,x.2.2.2.2.2.1,x.2.2.2.2.2.2.1,x.2.2.2.2.2.2.2.1,xh.1,xh.2.1,xh.2.2.1,y14))) (fun y15=>
 k (.inl (x.1,x.2.1,(IntKind.wrap .i64 (x.2.2.1+1)),x.2.2.2.1,x.2.2.2.2.1,x.2.2.2.2.2.1,x.2.2.2.2.2.2.1,x.2.2.2.2.2.2.2.1,xh.1,xh.2.1,xh.2.2.1,y15))))
 else none
 else
 k (.inr (x.1,x.2.1,x.2.2.1,x.2.2.2.1,x.2.2.2.2.1,x.2.2.2.2.2.1,x.2.2.2.2.2.2.1,x.2.2.2.2.2.2.2.1,xh.1,xh.2.1,xh.2.2.1,xh.2.2.2))
instance n11n_bp0 (x:q6T):ParC (vlj x):=by unfold vlj;(try dsimp only);infer_instance
def vja (x:q16T)(k:q16T⊕q16T→Option Res):Option Res:=
 let xh:=x.2.2.2.2.2.2.2.2
 bif (decide (x.2.2.1<x.2.1))then
 if 0≤x.2.2.1∧x.2.2.1<(x.1.length:Int)then
 vir [(rd (Ty.zero tWrite) x.1 x.2.2.1).1,(rd (Ty.zero tWrite) x.1 x.2.2.1).2.1] xh.2.2.2 (Sum.elim (fun y16=>
 vjx ((rd (Ty.zero tWrite) x.1 x.2.2.1).2.2) y16 (fun y17=>
 k (.inl (x.1,x.2.1,(IntKind.wrap .i64 (x.2.2.1+1)),x.2.2.2.1,x.2.2.2.2.1,x.2.2.2.2.2.1,x.2.2.2.2.2.2.1,x.2.2.2.2.2.2.2.1,xh.1,xh.2.1,xh.2.2.1,y17)))) (fun y18=>
 vjx ((rd (Ty.zero tWrite) x.1 x.2.2.1).2.2) y18 (fun y19=>
 k (.inl (x.1,x.2.1,(IntKind.wrap .i64 (x.2.2.1+1)),x.2.2.2.1,x.2.2.2.2.1,x.2.2.2.2.2.1,x.2.2.2.2.2.2.1,x.2.2.2.2.2.2.2.1,xh.1,xh.2.1,xh.2.2.1,y19)))))
 else none
 else
 k (.inr (x.1,x.2.1,x.2.2.1,x.2.2.2.1,x.2.2.2.2.1,x.2.2.2.2.2.1,x.2.2.2.2.2.2.1,x.2.2.2.2.2.2.2.1,xh.1,xh.2.1,xh.2.2.1,xh.2.2.2))
instance n11n_bp2 (x:q16T):ParC (vja x):=by unfold vja;(try dsimp only);infer_instance
def v7j (a0:dTxn)(k:(ByteArray×Bool)→Option Res):Option Res:=
 vgp a0 (fun y1=>
 bif (!y1)then
 k ((⟨#[]⟩:ByteArray),false)
 else
 vsm [a0.1,a0.2.1,a0.2.2.1,a0.2.2.2.1,(a0.2.2.2.2.1.length:Int)] (fun y2=>
 vak vlj Fuel (a0.2.2.2.2.1,(a0.2.2.2.2.1.length:Int),0,a0.1,a0.2.1,a0.2.2.1,a0.2.2.2.1,a0.2.2.2.2.1,a0.2.2.2.2.2.1,a0.2.2.2.2.2.2.1,a0.2.2.2.2.2.2.2,y2) (fun z3=>
 let z3h:=z3.2.2.2.2.2.2.2.2
 vw8 [(z3h.1.length:Int)] z3h.2.2.2 (Sum.elim (fun y4=>
 vak vja Fuel (z3h.1,(z3h.1.length:Int),0,z3.2.2.2.1,z3.2.2.2.2.1,z3.2.2.2.2.2.1,z3.2.2.2.2.2.2.1,z3.2.2.2.2.2.2.2.1,z3h.1,z3h.2.1,z3h.2.2.1,y4) (fun z5=>
 let z5h:=z5.2.2.2.2.2.2.2.2
 vjx z5h.2.1 z5h.2.2.2 (fun y6=>
 vir [z5h.2.2.1] y6 (Sum.elim (fun y7=>
 k ((va3 y7),true)) (fun y8=>
 k ((va3 y8),true)))))) (fun y9=>
 vak vja Fuel (z3h.1,(z3h.1.length:Int),0,z3.2.2.2.1,z3.2.2.2.2.1,z3.2.2.2.2.2.1,z3.2.2.2.2.2.2.1,z3.2.2.2.2.2.2.2.1,z3h.1,z3h.2.1,z3h.2.2.1,y9) (fun z10=>
 let z10h:=z10.2.2.2.2.2.2.2.2
 vjx z10h.2.1 z10h.2.2.2 (fun y11=>
 vir [z10h.2.2.1] y11 (Sum.elim (fun y12=>
 k ((va3 y12),true)) (fun y13=>
 k ((va3 y13),true))))))))))
def vrw:=shut v7j
theorem wgw:vrw=v7j:=val _
instance n11n_p (a0:dTxn):ParC (vrw a0):=by rw [wgw];unfold v7j;(try dsimp only);exact⟨((n10n_p _).p.bind fun y1=>(vaj (vag _) ((n21n_p _).p.bind fun y2=>((ve1 (fun x=>(n11n_bp0 x).p) _ _).bind fun z3=>((n22n_p _ _).p.bind2 (fun y4=>((ve1 (fun x=>(n11n_bp2 x).p) _ _).bind fun z5=>((n20n_p _ _).p.bind fun y6=>((n23n_p _ _).p.bind2 (fun y7=>(vag _)) (fun y8=>(vag _)))))) (fun y9=>((ve1 (fun x=>(n11n_bp2 x).p) _ _).bind fun z10=>((n20n_p _ _).p.bind fun y11=>((n23n_p _ _).p.bind2 (fun y12=>(vag _)) (fun y13=>(vag _)))))))))))⟩
def ves (x:q37T)(k:(q37T⊕q37T)→Option Res):Option Res:=
 let t0:=(IntKind.wrap .i64 (x.2.2.2.2.2.1+(IntKind.wrap .i64 (((IntKind.wrap .i64 (bt x.1 (IntKind.wrap .i64 (x.2.1+x.2.2.2.2.2.2)))).tmod (128:Int))*2^(min (IntKind.wrap .i64 ((7:Int)*x.2.2.2.2.2.2)).toNat (IntKind.bits .i64))))))
 if 0≤(IntKind.wrap .i64 (x.2.1+x.2.2.2.2.2.2))∧(IntKind.wrap .i64 (x.2.1+x.2.2.2.2.2.2))<(x.1.size:Int)then
 if(IntKind.wrap .i64 ((7:Int)*x.2.2.2.2.2.2))<0 then none else
 bif (decide ((IntKind.wrap .i64 (bt x.1 (IntKind.wrap .i64 (x.2.1+x.2.2.2.2.2.2))))<(128:Int)))then
 vj9 t0 (fun y6=>
 bif (!y6.2)then
 k (.inl (x.1,x.2.1,0,0,false,t0,x.2.2.2.2.2.2))
 else
 bif ((y6.1.size:Int) != (IntKind.wrap .i64 (x.2.2.2.2.2.2+1)))then
 k (.inl (x.1,x.2.1,0,0,false,t0,x.2.2.2.2.2.2))
 else
 k (.inl (x.1,x.2.1,t0,(IntKind.wrap .i64 ((IntKind.wrap .i64 (x.2.1+x.2.2.2.2.2.2))+1)),true,t0,x.2.2.2.2.2.2)))
 else
 k (.inr (x.1,x.2.1,x.2.2.1,x.2.2.2.1,x.2.2.2.2.1,t0,(IntKind.wrap .i64 (x.2.2.2.2.2.2+1))))
 else none
instance n07n_jp6000001 (x:q37T):ParC (ves x):=by unfold ves;(try dsimp only);infer_instance
def vk4 (x:q37T)(k:q37T⊕(q37T⊕q37T)→Option Res):Option Res:=
 bif (decide (x.2.2.2.2.2.2<5))then
 bif (decide ((IntKind.wrap .i64 (x.2.1+x.2.2.2.2.2.2))<(x.1.size:Int)))then
 ves (x.1,x.2.1,x.2.2.1,x.2.2.2.1,x.2.2.2.2.1,x.2.2.2.2.2.1,x.2.2.2.2.2.2) (Sum.elim (fun z4=>
 k (.inr (.inr (z4.1,z4.2.1,z4.2.2.1,z4.2.2.2.1,z4.2.2.2.2.1,z4.2.2.2.2.2.1,z4.2.2.2.2.2.2)))) (fun z5=>
 k (.inl (z5.1,z5.2.1,z5.2.2.1,z5.2.2.2.1,z5.2.2.2.2.1,z5.2.2.2.2.2.1,z5.2.2.2.2.2.2))))
 else
 k (.inr (.inl (x.1,x.2.1,x.2.2.1,x.2.2.2.1,x.2.2.2.2.1,x.2.2.2.2.2.1,x.2.2.2.2.2.2)))
 else
 k (.inr (.inl (x.1,x.2.1,x.2.2.1,x.2.2.2.1,x.2.2.2.2.1,x.2.2.2.2.2.1,x.2.2.2.2.2.2)))
instance n07n_bp0 (x:q37T):ParC (vk4 x):=by unfold vk4;(try dsimp only);infer_instance
def v6h (a0:ByteArray)(a1:Int)(k:(Int×Int×Bool)→Option Res):Option Res:=
 vfp a1 (0:Int) (a0.size:Int) (fun y1=>
 bif (!y1)then
 k (0,0,false)
 else
 vak vk4 Fuel (a0,a1,0,0,false,0,0) (Sum.elim (fun _=>
 k (0,0,false)) (fun z3=>
 k (z3.2.2.1,z3.2.2.2.1,z3.2.2.2.2.1))))
def vxe:=shut v6h
theorem wb5:vxe=v6h:=val _
instance n07n_p (a0:ByteArray)(a1:Int):ParC (vxe a0 a1):=by rw [wb5];unfold v6h;(try dsimp only);infer_instance
def v7i (a0:ByteArray)(a1:Int)(a2:Bool)(k:(Int×ByteArray×Int×Bool)→Option Res):Option Res:=
 vxe a0 a1 (fun y1=>
 bif a2 then
 k (0,a0,a1,true)
 else
 bif (!y1.2.2)then
 k (0,a0,a1,true)
 else
 k (y1.1,a0,y1.2.1,a2))
def vmv:=shut v7i
theorem wex:vmv=v7i:=val _
instance n27n_p (a0:ByteArray)(a1:Int)(a2:Bool):ParC (vmv a0 a1 a2):=by rw [wex];unfold v7i;(try dsimp only);infer_instance
def v7g (a0:ByteArray)(a1:Int)(k:(ByteArray×Int×Bool)→Option Res):Option Res:=
 vxe a0 a1 (fun y1=>
 bif (!y1.2.2)then
 k ((⟨#[]⟩:ByteArray),0,false)
 else
 bif (decide (y1.1>20000))then
 k ((⟨#[]⟩:ByteArray),0,false)
 else
 bif (decide (y1.1>(IntKind.wrap .i64 ((a0.size:Int)-y1.2.1))))then
 k ((⟨#[]⟩:ByteArray),0,false)
 else
 if 0≤y1.2.1∧y1.2.1≤(IntKind.wrap .i64 (y1.2.1+y1.1))∧(IntKind.wrap .i64 (y1.2.1+y1.1))≤(a0.size:Int)then
 k ((a0.extract y1.2.1.toNat (IntKind.wrap .i64 (y1.2.1+y1.1)).toNat),(IntKind.wrap .i64 (y1.2.1+y1.1)),true)
 else none)
def v0r:=shut v7g
theorem wel:v0r=v7g:=val _
instance n05n_p (a0:ByteArray)(a1:Int):ParC (v0r a0 a1):=by rw [wel];unfold v7g;(try dsimp only);infer_instance
def v7c (a0:ByteArray)(a1:Int)(a2:Bool)(k:q33T→Option Res):Option Res:=
 v0r a0 a1 (fun y1=>
 bif a2 then
 k ((⟨#[]⟩:ByteArray),a0,a1,true)
 else
 bif (!y1.2.2)then
 k ((⟨#[]⟩:ByteArray),a0,a1,true)
 else
 k (y1.1,a0,y1.2.1,a2))
def vim:=shut v7c
theorem wfv:vim=v7c:=val _
instance n28n_p (a0:ByteArray)(a1:Int)(a2:Bool):ParC (vim a0 a1 a2):=by rw [wfv];unfold v7c;(try dsimp only);infer_instance
def wf7 (a0:Int)(a1:Int)(a2:Int)(a3:Int)(a4:Bool)(a5:ByteArray)(a6:ByteArray)(a7:Int)(a8:Bool)(k:q57T→Option Res):Option Res:=
 vim a6 a7 a8 (fun y1=>
 vim y1.2.1 y1.2.2.1 y1.2.2.2 (fun y2=>
 if [(y1.1,y2.1)].length≤VE.maxLen then
 k (a0,a1,a2,a3,a4,a5,y2.2.1,y2.2.2.1,y2.2.2.2,[(y1.1,y2.1)])
 else none))
def wd5:=shut wf7
theorem wlo:wd5=wf7:=val _
instance n30n_p (a0:Int)(a1:Int)(a2:Int)(a3:Int)(a4:Bool)(a5:ByteArray)(a6:ByteArray)(a7:Int)(a8:Bool):ParC (wd5 a0 a1 a2 a3 a4 a5 a6 a7 a8):=by rw [wlo];unfold wf7;(try dsimp only);infer_instance
def v6f (a0:Int)(a1:Int)(a2:Int)(a3:Int)(a4:Bool)(a5:ByteArray)(a6:(List vad))(a7:ByteArray)(a8:Int)(a9:Bool)(k:q57T→Option Res):Option Res:=
 vim a7 a8 a9 (fun y1=>
 vim y1.2.1 y1.2.2.1 y1.2.2.2 (fun y2=>
 if a6.length+[(y1.1,y2.1)].length≤VE.maxLen then
 k (a0,a1,a2,a3,a4,a5,y2.2.1,y2.2.2.1,y2.2.2.2,(a6++[(y1.1,y2.1)]))
 else none))
def v8h:=shut v6f
theorem we8:v8h=v6f:=val _
instance n31n_p (a0:Int)(a1:Int)(a2:Int)(a3:Int)(a4:Bool)(a5:ByteArray)(a6:(List vad))(a7:ByteArray)(a8:Int)(a9:Bool):ParC (v8h a0 a1 a2 a3 a4 a5 a6 a7 a8 a9):=by rw [we8];unfold v6f;(try dsimp only);infer_instance
def vev (x:q47T)(k:q47T→Option Res):Option Res:=
 let xh:=x.2.2.2.2.2.2.2.2
 v8h x.2.2.2.2.2.1 x.2.2.2.2.2.2.1 x.2.2.2.2.2.2.2.1 xh.1 xh.2.1 xh.2.2.1 xh.2.2.2 x.2.2.1 x.2.2.2.1 x.2.2.2.2.1 (fun y4=>
 let y4h:=y4.2.2.2.2.2.2.2.2
 k (x.1,(IntKind.wrap .i64 (x.2.1+1)),y4.2.2.2.2.2.2.1,y4.2.2.2.2.2.2.2.1,y4h.1,y4.1,y4.2.1,y4.2.2.1,y4.2.2.2.1,y4.2.2.2.2.1,y4.2.2.2.2.2.1,y4h.2))
instance n24n_jp6000001 (x:q47T):ParC (vev x):=by unfold vev;(try dsimp only);infer_instance
def vnf (x:q47T)(k:q47T⊕q47T→Option Res):Option Res:=
 let xh:=x.2.2.2.2.2.2.2.2
 bif (decide (x.2.1<x.1))then
 bif (!x.2.2.2.2.1)then
 vev (x.1,x.2.1,x.2.2.1,x.2.2.2.1,x.2.2.2.2.1,x.2.2.2.2.2.1,x.2.2.2.2.2.2.1,x.2.2.2.2.2.2.2.1,xh.1,xh.2.1,xh.2.2.1,xh.2.2.2) (fun z3=>
 let z3h:=z3.2.2.2.2.2.2.2.2
 k (.inl (z3.1,z3.2.1,z3.2.2.1,z3.2.2.2.1,z3.2.2.2.2.1,z3.2.2.2.2.2.1,z3.2.2.2.2.2.2.1,z3.2.2.2.2.2.2.2.1,z3h.1,z3h.2.1,z3h.2.2.1,z3h.2.2.2)))
 else
 k (.inr (x.1,x.2.1,x.2.2.1,x.2.2.2.1,x.2.2.2.2.1,x.2.2.2.2.2.1,x.2.2.2.2.2.2.1,x.2.2.2.2.2.2.2.1,xh.1,xh.2.1,xh.2.2.1,xh.2.2.2))
 else
 k (.inr (x.1,x.2.1,x.2.2.1,x.2.2.2.1,x.2.2.2.2.1,x.2.2.2.2.2.1,x.2.2.2.2.2.2.1,x.2.2.2.2.2.2.2.1,xh.1,xh.2.1,xh.2.2.1,xh.2.2.2))
instance n24n_bp0 (x:q47T):ParC (vnf x):=by unfold vnf;(try dsimp only);infer_instance
def v7y (a0:ByteArray)(a1:Int)(a2:Bool)(a3:Int)(a4:Int)(a5:Int)(a6:Int)(a7:Bool)(a8:ByteArray)(k:q35T→Option Res):Option Res:=
 vmv a0 a1 a2 (fun y1=>
 vak vnf Fuel (y1.1,0,y1.2.1,y1.2.2.1,y1.2.2.2,a3,a4,a5,a6,a7,a8,([]:List vad)) (fun z2=>
 let z2h:=z2.2.2.2.2.2.2.2.2
 k (z2.2.2.1,z2.2.2.2.1,z2.2.2.2.2.1,z2.2.2.2.2.2.1,z2.2.2.2.2.2.2.1,z2.2.2.2.2.2.2.2.1,z2h.1,z2h.2.1,z2h.2.2.1,z2h.2.2.2)))
def v16:=shut v7y
theorem wcx:v16=v7y:=val _
instance n24n_p (a0:ByteArray)(a1:Int)(a2:Bool)(a3:Int)(a4:Int)(a5:Int)(a6:Int)(a7:Bool)(a8:ByteArray):ParC (v16 a0 a1 a2 a3 a4 a5 a6 a7 a8):=by rw [wcx];unfold v7y;(try dsimp only);infer_instance
def ver (x:q18T)(k:q18T→Option Res):Option Res:=
 if 0≤(IntKind.wrap .i64 ((IntKind.wrap .i64 (x.2.2.1+1))-1))∧(IntKind.wrap .i64 ((IntKind.wrap .i64 (x.2.2.1+1))-1))<(x.2.1.size:Int)then
 k (((bt x.2.1 (IntKind.wrap .i64 ((IntKind.wrap .i64 (x.2.2.1+1))-1)))==(1:Int)),x.2.1,(IntKind.wrap .i64 (x.2.2.1+1)),x.2.2.2)
 else none
instance n26n_jp5000004 (x:q18T):ParC (ver x):=by unfold ver;(try dsimp only);infer_instance
def v86 (a0:ByteArray)(a1:Int)(a2:Bool)(k:q18T→Option Res):Option Res:=
 bif a2 then
 k (false,a0,a1,true)
 else
 vfp a1 (0:Int) (IntKind.wrap .i64 ((a0.size:Int)-1)) (fun y1=>
 bif (!y1)then
 k (false,a0,a1,true)
 else
 if 0≤a1∧a1<(a0.size:Int)then
 bif (decide ((bt a0 a1)>(1:Int)))then
 k (false,a0,a1,true)
 else
 ver (false,a0,a1,a2) (fun z2=>
 k (z2.1,z2.2.1,z2.2.2.1,z2.2.2.2))
 else none)
def vsi:=shut v86
theorem wc7:vsi=v86:=val _
instance n26n_p (a0:ByteArray)(a1:Int)(a2:Bool):ParC (vsi a0 a1 a2):=by rw [wc7];unfold v86;(try dsimp only);infer_instance
def wez (a0:Int)(a1:Int)(a2:Int)(a3:Int)(a4:Bool)(a5:ByteArray)(a6:ByteArray)(a7:Int)(a8:Bool)(a9:(List vad))(k:q56T→Option Res):Option Res:=
 vim a6 a7 a8 (fun y1=>
 vim y1.2.1 y1.2.2.1 y1.2.2.2 (fun y2=>
 vsi y2.2.1 y2.2.2.1 y2.2.2.2 (fun y3=>
 if [(y1.1,(y2.1,y3.1))].length≤VE.maxLen then
 k (a0,a1,a2,a3,a4,a5,y3.2.1,y3.2.2.1,y3.2.2.2,a9,[(y1.1,(y2.1,y3.1))])
 else none)))
def wgg:=shut wez
theorem wmk:wgg=wez:=val _
instance n32n_p (a0:Int)(a1:Int)(a2:Int)(a3:Int)(a4:Bool)(a5:ByteArray)(a6:ByteArray)(a7:Int)(a8:Bool)(a9:(List vad)):ParC (wgg a0 a1 a2 a3 a4 a5 a6 a7 a8 a9):=by rw [wmk];unfold wez;(try dsimp only);infer_instance
def v7b (a0:Int)(a1:Int)(a2:Int)(a3:Int)(a4:Bool)(a5:ByteArray)(a6:ByteArray)(a7:Int)(a8:Bool)(a9:(List vad))(a10:(List vaa))(k:q56T→Option Res):Option Res:=
 vim a6 a7 a8 (fun y1=>
 vim y1.2.1 y1.2.2.1 y1.2.2.2 (fun y2=>
 vsi y2.2.1 y2.2.2.1 y2.2.2.2 (fun y3=>
 if a10.length+[(y1.1,(y2.1,y3.1))].length≤VE.maxLen then
 k (a0,a1,a2,a3,a4,a5,y3.2.1,y3.2.2.1,y3.2.2.2,a9,(a10++[(y1.1,(y2.1,y3.1))]))
 else none)))
def v54:=shut v7b
theorem wf3:v54=v7b:=val _
instance n33n_p (a0:Int)(a1:Int)(a2:Int)(a3:Int)(a4:Bool)(a5:ByteArray)(a6:ByteArray)(a7:Int)(a8:Bool)(a9:(List vad))(a10:(List vaa)):ParC (v54 a0 a1 a2 a3 a4 a5 a6 a7 a8 a9 a10):=by rw [wf3];unfold v7b;(try dsimp only);infer_instance
def veq (x:q46T)(k:q46T→Option Res):Option Res:=
 let xh:=x.2.2.2.2.2.2.2.2
 v54 x.2.2.2.2.2.1 x.2.2.2.2.2.2.1 x.2.2.2.2.2.2.2.1 xh.1 xh.2.1 xh.2.2.1 x.2.2.1 x.2.2.2.1 x.2.2.2.2.1 xh.2.2.2.1 xh.2.2.2.2 (fun y4=>
 let y4h:=y4.2.2.2.2.2.2.2.2
 k (x.1,(IntKind.wrap .i64 (x.2.1+1)),y4.2.2.2.2.2.2.1,y4.2.2.2.2.2.2.2.1,y4h.1,y4.1,y4.2.1,y4.2.2.1,y4.2.2.2.1,y4.2.2.2.2.1,y4.2.2.2.2.2.1,y4h.2.1,y4h.2.2))
instance n25n_jp6000001 (x:q46T):ParC (veq x):=by unfold veq;(try dsimp only);infer_instance
def vns (x:q46T)(k:q46T⊕q46T→Option Res):Option Res:=
 let xh:=x.2.2.2.2.2.2.2.2
 bif (decide (x.2.1<x.1))then
 bif (!x.2.2.2.2.1)then
 veq (x.1,x.2.1,x.2.2.1,x.2.2.2.1,x.2.2.2.2.1,x.2.2.2.2.2.1,x.2.2.2.2.2.2.1,x.2.2.2.2.2.2.2.1,xh.1,xh.2.1,xh.2.2.1,xh.2.2.2.1,xh.2.2.2.2) (fun z3=>
 let z3h:=z3.2.2.2.2.2.2.2.2
 k (.inl (z3.1,z3.2.1,z3.2.2.1,z3.2.2.2.1,z3.2.2.2.2.1,z3.2.2.2.2.2.1,z3.2.2.2.2.2.2.1,z3.2.2.2.2.2.2.2.1,z3h.1,z3h.2.1,z3h.2.2.1,z3h.2.2.2.1,z3h.2.2.2.2)))
 else
 k (.inr (x.1,x.2.1,x.2.2.1,x.2.2.2.1,x.2.2.2.2.1,x.2.2.2.2.2.1,x.2.2.2.2.2.2.1,x.2.2.2.2.2.2.2.1,xh.1,xh.2.1,xh.2.2.1,xh.2.2.2.1,xh.2.2.2.2))
 else
 k (.inr (x.1,x.2.1,x.2.2.1,x.2.2.2.1,x.2.2.2.2.1,x.2.2.2.2.2.1,x.2.2.2.2.2.2.1,x.2.2.2.2.2.2.2.1,xh.1,xh.2.1,xh.2.2.1,xh.2.2.2.1,xh.2.2.2.2))
instance n25n_bp0 (x:q46T):ParC (vns x):=by unfold vns;(try dsimp only);infer_instance
def v7k (a0:ByteArray)(a1:Int)(a2:Bool)(a3:Int)(a4:Int)(a5:Int)(a6:Int)(a7:Bool)(a8:ByteArray)(a9:(List vad))(k:q34T→Option Res):Option Res:=
 vmv a0 a1 a2 (fun y1=>
 vak vns Fuel (y1.1,0,y1.2.1,y1.2.2.1,y1.2.2.2,a3,a4,a5,a6,a7,a8,a9,([]:List vaa)) (fun z2=>
 let z2h:=z2.2.2.2.2.2.2.2.2
 k (z2.2.2.1,z2.2.2.2.1,z2.2.2.2.2.1,z2.2.2.2.2.2.1,z2.2.2.2.2.2.2.1,z2.2.2.2.2.2.2.2.1,z2h.1,z2h.2.1,z2h.2.2.1,z2h.2.2.2.1,z2h.2.2.2.2)))
def v02:=shut v7k
theorem wgt:v02=v7k:=val _
instance n25n_p (a0:ByteArray)(a1:Int)(a2:Bool)(a3:Int)(a4:Int)(a5:Int)(a6:Int)(a7:Bool)(a8:ByteArray)(a9:(List vad)):ParC (v02 a0 a1 a2 a3 a4 a5 a6 a7 a8 a9):=by rw [wgt];unfold v7k;(try dsimp only);infer_instance
def v6t (a0:ByteArray)(a1:Int)(a2:Bool)(k:q56T→Option Res):Option Res:=
 vmv a0 a1 a2 (fun y1=>
 vmv y1.2.1 y1.2.2.1 y1.2.2.2 (fun y2=>
 vmv y2.2.1 y2.2.2.1 y2.2.2.2 (fun y3=>
 vmv y3.2.1 y3.2.2.1 y3.2.2.2 (fun y4=>
 v16 y4.2.1 y4.2.2.1 y4.2.2.2 y1.1 y2.1 y3.1 y4.1 false (⟨#[]⟩:ByteArray) (fun y5=>
 let y5h:=y5.2.2.2.2.2.2.2.2
 v02 y5.1 y5.2.1 y5.2.2.1 y5.2.2.2.1 y5.2.2.2.2.1 y5.2.2.2.2.2.1 y5.2.2.2.2.2.2.1 y5.2.2.2.2.2.2.2.1 y5h.1 y5h.2 (fun y6=>
 let y6h:=y6.2.2.2.2.2.2.2.2
 vsi y6.1 y6.2.1 y6.2.2.1 (fun y7=>
 vim y7.2.1 y7.2.2.1 y7.2.2.2 (fun y8=>
 bif y8.2.2.2 then
 k (y6.2.2.2.1,y6.2.2.2.2.1,y6.2.2.2.2.2.1,y6.2.2.2.2.2.2.1,y7.1,y8.1,y8.2.1,y8.2.2.1,true,y6h.2.1,y6h.2.2)
 else
 vgp (y6.2.2.2.1,(y6.2.2.2.2.1,(y6.2.2.2.2.2.1,(y6.2.2.2.2.2.2.1,(y6h.2.1,(y6h.2.2,(y7.1,y8.1))))))) (fun y9=>
 k (y6.2.2.2.1,y6.2.2.2.2.1,y6.2.2.2.2.2.1,y6.2.2.2.2.2.2.1,y7.1,y8.1,y8.2.1,y8.2.2.1,(!y9),y6h.2.1,y6h.2.2))))))))))
def v65:=shut v6t
theorem wdg:v65=v6t:=val _
instance n29n_p (a0:ByteArray)(a1:Int)(a2:Bool):ParC (v65 a0 a1 a2):=by rw [wdg];unfold v6t;(try dsimp only);exact⟨((n27n_p _ _ _).p.bind fun y1=>((n27n_p _ _ _).p.bind fun y2=>((n27n_p _ _ _).p.bind fun y3=>((n27n_p _ _ _).p.bind fun y4=>((n24n_p _ _ _ _ _ _ _ _ _).p.bind fun y5=>((n25n_p _ _ _ _ _ _ _ _ _ _).p.bind fun y6=>((n26n_p _ _ _).p.bind fun y7=>((n28n_p _ _ _).p.bind fun y8=>(vaj (vag _) ((n10n_p _).p.bind fun y9=>(vag _)))))))))))⟩
def v7m (a0:ByteArray)(a1:Int)(k:q59T→Option Res):Option Res:=
 v65 a0 a1 false (fun y1=>
 let y1h:=y1.2.2.2.2.2.2.2.2
 bif y1h.1 then
 k (0,0,0,0,false,(⟨#[]⟩:ByteArray),0,false,([]:List vad),([]:List vaa))
 else
 k (y1.1,y1.2.1,y1.2.2.1,y1.2.2.2.1,y1.2.2.2.2.1,y1.2.2.2.2.2.1,y1.2.2.2.2.2.2.2.1,true,y1h.2.1,y1h.2.2))
def vxg:=shut v7m
theorem wfk:vxg=v7m:=val _
instance n06n_p (a0:ByteArray)(a1:Int):ParC (vxg a0 a1):=by rw [wfk];unfold v7m;(try dsimp only);infer_instance
def v7a (a0:Int)(a1:Int)(a2:Int)(k:Bool→Option Res):Option Res:=
 bif (decide (a0≥a1))then
 k (decide (a0≤a2))
 else
 k false
def vgs:=shut v7a
theorem wdz:vgs=v7a:=val _
instance n66n_p (a0:Int)(a1:Int)(a2:Int):ParC (vgs a0 a1 a2):=by rw [wdz];unfold v7a;(try dsimp only);infer_instance
def vkp (x:(ByteArray×Bool×Int))(k:(ByteArray×Bool×Int)⊕((ByteArray×Bool×Int)⊕(ByteArray×Bool×Int))→Option Res):Option Res:=
 bif (decide (x.2.2<(x.1.size:Int)))then
 if 0≤x.2.2∧x.2.2<(x.1.size:Int)then
 bif (decide ((bt x.1 x.2.2)<(97:Int)))then
 k (.inr (.inl (x.1,false,x.2.2)))
 else
 if 0≤x.2.2∧x.2.2<(x.1.size:Int)then
 bif (decide ((bt x.1 x.2.2)>(122:Int)))then
 k (.inr (.inl (x.1,false,x.2.2)))
 else
 k (.inl (x.1,x.2.1,(IntKind.wrap .i64 (x.2.2+1))))
 else none
 else none
 else
 k (.inr (.inr (x.1,x.2.1,x.2.2)))
instance n49n_bp0 (x:(ByteArray×Bool×Int)):ParC (vkp x):=by unfold vkp;(try dsimp only);infer_instance
def v8b (a0:ByteArray)(k:Bool→Option Res):Option Res:=
 vak vkp Fuel (a0,false,0) (Sum.elim (fun z1=>
 k z1.2.1) (fun z2=>
 vgs (z2.1.size:Int) (1:Int) (3:Int) (fun y3=>
 k y3)))
def vmq:=shut v8b
theorem wbz:vmq=v8b:=val _
instance n49n_p (a0:ByteArray):ParC (vmq a0):=by rw [wbz];unfold v8b;(try dsimp only);infer_instance
def v8z (a0:vaa)(k:Bool→Option Res):Option Res:=
 vmq a0.1 (fun y1=>
 bif y1 then
 bif (decide ((a0.2.1.size:Int)≤(12:Int)))then
 bif (!a0.2.2)then
 k true
 else
 k (vav a0.2.1 (⟨#[]⟩:ByteArray))
 else
 k false
 else
 k false)
def vp4:=shut v8z
theorem weq:vp4=v8z:=val _
instance n62n_p (a0:vaa):ParC (vp4 a0):=by rw [weq];unfold v8z;(try dsimp only);infer_instance
def vkh (x:((List vaa)×Bool×Int))(k:((List vaa)×Bool×Int)⊕(((List vaa)×Bool×Int)⊕((List vaa)×Bool×Int))→Option Res):Option Res:=
 bif (decide (x.2.2<(x.1.length:Int)))then
 if 0≤x.2.2∧x.2.2<(x.1.length:Int)then
 vp4 (rd (Ty.zero tWrite) x.1 x.2.2) (fun y3=>
 bif (!y3)then
 k (.inr (.inl (x.1,false,x.2.2)))
 else
 bif (decide (x.2.2>0))then
 if 0≤(IntKind.wrap .i64 (x.2.2-1))∧(IntKind.wrap .i64 (x.2.2-1))<(x.1.length:Int)then
 if 0≤x.2.2∧x.2.2<(x.1.length:Int)then
 bif (!(vai ((rd (Ty.zero tWrite) x.1 (IntKind.wrap .i64 (x.2.2-1))).1) ((rd (Ty.zero tWrite) x.1 x.2.2).1)))then
 k (.inr (.inl (x.1,false,x.2.2)))
 else
 k (.inl (x.1,x.2.1,(IntKind.wrap .i64 (x.2.2+1))))
 else none
 else none
 else
 k (.inl (x.1,x.2.1,(IntKind.wrap .i64 (x.2.2+1)))))
 else none
 else
 k (.inr (.inr (x.1,x.2.1,x.2.2)))
instance n63n_bp0 (x:((List vaa)×Bool×Int)):ParC (vkh x):=by unfold vkh;(try dsimp only);infer_instance
def v5y (a0:(List vaa))(k:Bool→Option Res):Option Res:=
 vak vkh Fuel (a0,false,0) (Sum.elim (fun z1=>
 k z1.2.1) (fun z2=>
 k (decide ((z2.1.length:Int)≤(8:Int)))))
def vny:=shut v5y
theorem wcn:vny=v5y:=val _
instance n63n_p (a0:(List vaa)):ParC (vny a0):=by rw [wcn];unfold v5y;(try dsimp only);infer_instance
def v6r (a0:vad)(k:Bool→Option Res):Option Res:=
 vmq a0.1 (fun y1=>
 bif y1 then
 vmq a0.2 (fun y2=>
 bif y2 then
 k ((vai a0.1 a0.2)||(vav a0.1 a0.2))
 else
 k false)
 else
 k false)
def vp8:=shut v6r
theorem wb2:vp8=v6r:=val _
instance n53n_p (a0:vad):ParC (vp8 a0):=by rw [wb2];unfold v6r;(try dsimp only);infer_instance
def vb2 (x:q24T)(k:q24T→Option Res):Option Res:=
 let xh:=x.2.2.2.2.2.2.2.2
 bif (x.2.2.1 != (1:Int))then
 k (true,x.2.1,x.2.2.1,x.2.2.2.1,x.2.2.2.2.1,x.2.2.2.2.2.1,x.2.2.2.2.2.2.1,x.2.2.2.2.2.2.2.1,xh)
 else
 k ((!x.2.2.2.2.2.2.2.1),x.2.1,x.2.2.1,x.2.2.2.1,x.2.2.2.2.1,x.2.2.2.2.2.1,x.2.2.2.2.2.2.1,x.2.2.2.2.2.2.2.1,xh)
instance n59n_jp5000012 (x:q24T):ParC (vb2 x):=by unfold vb2;(try dsimp only);infer_instance
def vb4 (x:q24T)(k:q24T→Option Res):Option Res:=
 let xh:=x.2.2.2.2.2.2.2.2
 let t0:=(x.1,x.2.1,x.2.2.1,x.2.2.2.1,x.2.2.2.2.1,x.2.2.2.2.2.1,x.2.2.2.2.2.2.1,x.2.2.2.2.2.2.2.1,xh)
 let t1:=(false,x.2.1,x.2.2.1,x.2.2.2.1,x.2.2.2.2.1,x.2.2.2.2.2.1,x.2.2.2.2.2.2.1,x.2.2.2.2.2.2.2.1,xh)
 bif (x.2.2.1==(2:Int))then
 vmq xh (fun y14=>
 bif (!y14)then
 k t1
 else
 bif (x.2.2.1 != (2:Int))then
 bif (!(vav xh (⟨#[]⟩:ByteArray)))then
 k t1
 else
 vb2 t0 (fun z15=>
 k (z15.1,z15.2.1,z15.2.2.1,z15.2.2.2.1,z15.2.2.2.2.1,z15.2.2.2.2.2.1,z15.2.2.2.2.2.2.1,z15.2.2.2.2.2.2.2.1,z15.2.2.2.2.2.2.2.2))
 else
 vb2 t0 (fun z16=>
 k (z16.1,z16.2.1,z16.2.2.1,z16.2.2.2.1,z16.2.2.2.2.1,z16.2.2.2.2.2.1,z16.2.2.2.2.2.2.1,z16.2.2.2.2.2.2.2.1,z16.2.2.2.2.2.2.2.2)))
 else
 bif (x.2.2.1 != (2:Int))then
 bif (!(vav xh (⟨#[]⟩:ByteArray)))then
 k t1
 else
 vb2 t0 (fun z17=>
 k (z17.1,z17.2.1,z17.2.2.1,z17.2.2.2.1,z17.2.2.2.2.1,z17.2.2.2.2.2.1,z17.2.2.2.2.2.2.1,z17.2.2.2.2.2.2.2.1,z17.2.2.2.2.2.2.2.2))
 else
 vb2 t0 (fun z18=>
 k (z18.1,z18.2.1,z18.2.2.1,z18.2.2.2.1,z18.2.2.2.2.1,z18.2.2.2.2.2.1,z18.2.2.2.2.2.2.1,z18.2.2.2.2.2.2.2.1,z18.2.2.2.2.2.2.2.2))
instance n59n_jp5000010 (x:q24T):ParC (vb4 x):=by unfold vb4;(try dsimp only);exact⟨(vaj ((n49n_p _).p.bind fun y14=>(vaj (vag _) (vaj (vaj (vag _) ((n59n_jp5000012 _).p.bind fun z15=>(vag _))) ((n59n_jp5000012 _).p.bind fun z16=>(vag _))))) (vaj (vaj (vag _) ((n59n_jp5000012 _).p.bind fun z17=>(vag _))) ((n59n_jp5000012 _).p.bind fun z18=>(vag _))))⟩
def vlm (x:q29T)(k:q29T⊕(q29T⊕q29T)→Option Res):Option Res:=
 let xh:=x.2.2.2.2.2.2.2.2
 bif (decide (x.2.1<(x.2.2.2.2.2.2.1.length:Int)))then
 if 0≤x.2.1∧x.2.1<(x.2.2.2.2.2.2.1.length:Int)then
 vp8 (rd (Ty.zero tRange) x.2.2.2.2.2.2.1 x.2.1) (fun y6=>
 bif (!y6)then
 k (.inr (.inl (false,x.2.1,x.2.2.1,x.2.2.2.1,x.2.2.2.2.1,x.2.2.2.2.2.1,x.2.2.2.2.2.2.1,x.2.2.2.2.2.2.2.1,xh.1,xh.2)))
 else
 k (.inl (x.1,(IntKind.wrap .i64 (x.2.1+1)),x.2.2.1,x.2.2.2.1,x.2.2.2.2.1,x.2.2.2.2.2.1,x.2.2.2.2.2.2.1,x.2.2.2.2.2.2.2.1,xh.1,xh.2)))
 else none
 else
 k (.inr (.inr (x.1,x.2.1,x.2.2.1,x.2.2.2.1,x.2.2.2.2.1,x.2.2.2.2.2.1,x.2.2.2.2.2.2.1,x.2.2.2.2.2.2.2.1,xh.1,xh.2)))
instance n59n_bp0 (x:q29T):ParC (vlm x):=by unfold vlm;(try dsimp only);infer_instance
def vdm (x:q24T)(k:q24T→Option Res):Option Res:=
 vak vlm Fuel (x.1,0,x.2.1,x.2.2.1,x.2.2.2.1,x.2.2.2.2.1,x.2.2.2.2.2.1,x.2.2.2.2.2.2.1,x.2.2.2.2.2.2.2.1,x.2.2.2.2.2.2.2.2) (Sum.elim (fun z7=>
 let z7h:=z7.2.2.2.2.2.2.2.2
 k (z7.1,z7.2.2.1,z7.2.2.2.1,z7.2.2.2.2.1,z7.2.2.2.2.2.1,z7.2.2.2.2.2.2.1,z7.2.2.2.2.2.2.2.1,z7h.1,z7h.2)) (fun z8=>
 let z8h:=z8.2.2.2.2.2.2.2.2
 bif (z8.2.2.2.1==(3:Int))then
 vgs z8.2.2.2.2.2.1 (IntKind.wrap .i64 (z8.2.2.2.2.1+1)) (9999:Int) (fun y9=>
 bif (!y9)then
 k (false,z8.2.2.1,z8.2.2.2.1,z8.2.2.2.2.1,z8.2.2.2.2.2.1,z8.2.2.2.2.2.2.1,z8.2.2.2.2.2.2.2.1,z8h.1,z8h.2)
 else
 bif (z8.2.2.2.1 != (3:Int))then
 bif (z8.2.2.2.2.2.1 != (0:Int))then
 k (false,z8.2.2.1,z8.2.2.2.1,z8.2.2.2.2.1,z8.2.2.2.2.2.1,z8.2.2.2.2.2.2.1,z8.2.2.2.2.2.2.2.1,z8h.1,z8h.2)
 else
 vb4 (z8.1,z8.2.2.1,z8.2.2.2.1,z8.2.2.2.2.1,z8.2.2.2.2.2.1,z8.2.2.2.2.2.2.1,z8.2.2.2.2.2.2.2.1,z8h.1,z8h.2) (fun z10=>
 k (z10.1,z10.2.1,z10.2.2.1,z10.2.2.2.1,z10.2.2.2.2.1,z10.2.2.2.2.2.1,z10.2.2.2.2.2.2.1,z10.2.2.2.2.2.2.2.1,z10.2.2.2.2.2.2.2.2))
 else
 vb4 (z8.1,z8.2.2.1,z8.2.2.2.1,z8.2.2.2.2.1,z8.2.2.2.2.2.1,z8.2.2.2.2.2.2.1,z8.2.2.2.2.2.2.2.1,z8h.1,z8h.2) (fun z11=>
 k (z11.1,z11.2.1,z11.2.2.1,z11.2.2.2.1,z11.2.2.2.2.1,z11.2.2.2.2.2.1,z11.2.2.2.2.2.2.1,z11.2.2.2.2.2.2.2.1,z11.2.2.2.2.2.2.2.2)))
 else
 bif (z8.2.2.2.1 != (3:Int))then
 bif (z8.2.2.2.2.2.1 != (0:Int))then
 k (false,z8.2.2.1,z8.2.2.2.1,z8.2.2.2.2.1,z8.2.2.2.2.2.1,z8.2.2.2.2.2.2.1,z8.2.2.2.2.2.2.2.1,z8h.1,z8h.2)
 else
 vb4 (z8.1,z8.2.2.1,z8.2.2.2.1,z8.2.2.2.2.1,z8.2.2.2.2.2.1,z8.2.2.2.2.2.2.1,z8.2.2.2.2.2.2.2.1,z8h.1,z8h.2) (fun z12=>
 k (z12.1,z12.2.1,z12.2.2.1,z12.2.2.2.1,z12.2.2.2.2.1,z12.2.2.2.2.2.1,z12.2.2.2.2.2.2.1,z12.2.2.2.2.2.2.2.1,z12.2.2.2.2.2.2.2.2))
 else
 vb4 (z8.1,z8.2.2.1,z8.2.2.2.1,z8.2.2.2.2.1,z8.2.2.2.2.2.1,z8.2.2.2.2.2.2.1,z8.2.2.2.2.2.2.2.1,z8h.1,z8h.2) (fun z13=>
 k (z13.1,z13.2.1,z13.2.2.1,z13.2.2.2.1,z13.2.2.2.2.1,z13.2.2.2.2.2.1,z13.2.2.2.2.2.2.1,z13.2.2.2.2.2.2.2.1,z13.2.2.2.2.2.2.2.2))))
instance n59n_jp5000003 (x:q24T):ParC (vdm x):=by unfold vdm;(try dsimp only);exact⟨((ve1 (fun x=>(n59n_bp0 x).p) _ _).bind2 (fun z7=>(vag _)) (fun z8=>(vaj ((n66n_p _ _ _).p.bind fun y9=>(vaj (vag _) (vaj (vaj (vag _) ((n59n_jp5000010 _).p.bind fun z10=>(vag _))) ((n59n_jp5000010 _).p.bind fun z11=>(vag _))))) (vaj (vaj (vag _) ((n59n_jp5000010 _).p.bind fun z12=>(vag _))) ((n59n_jp5000010 _).p.bind fun z13=>(vag _))))))⟩
def v57 (a0:dTxn)(k:Bool→Option Res):Option Res:=
 vgs a0.1 (1:Int) (9999:Int) (fun y1=>
 bif (!y1)then
 k false
 else
 vgs a0.2.1 (1:Int) (3:Int) (fun y2=>
 bif (!y2)then
 k false
 else
 vgs a0.2.2.1 (0:Int) (9999:Int) (fun y3=>
 bif (!y3)then
 k false
 else
 bif (decide ((a0.2.2.2.2.1.length:Int)>(8:Int)))then
 k false
 else
 vny a0.2.2.2.2.2.1 (fun y4=>
 bif (!y4)then
 k false
 else
 vdm (false,a0.1,a0.2.1,a0.2.2.1,a0.2.2.2.1,a0.2.2.2.2.1,a0.2.2.2.2.2.1,a0.2.2.2.2.2.2.1,a0.2.2.2.2.2.2.2) (fun z5=>
 k z5.1)))))
def vi3:=shut v57
theorem wcv:vi3=v57:=val _
instance n59n_p (a0:dTxn):ParC (vi3 a0):=by rw [wcv];unfold v57;(try dsimp only);exact⟨((n66n_p _ _ _).p.bind fun y1=>(vaj (vag _) ((n66n_p _ _ _).p.bind fun y2=>(vaj (vag _) ((n66n_p _ _ _).p.bind fun y3=>(vaj (vag _) (vaj (vag _) ((n63n_p _).p.bind fun y4=>(vaj (vag _) ((n59n_jp5000003 _).p.bind fun z5=>(vag _)))))))))))⟩
def vhj (x:(Int×(List Int)))(k:(Int×(List Int))⊕(Int×(List Int))→Option Res):Option Res:=
 bif (decide (x.1>127))then
 if x.2.length+[(IntKind.wrap .u8 (IntKind.wrap .i64 ((x.1.tmod (128:Int))+(128:Int))))].length≤VE.maxLen then
 k (.inl ((IntKind.wrap .i64 (x.1.tdiv (128:Int))),(x.2++[(IntKind.wrap .u8 (IntKind.wrap .i64 ((x.1.tmod (128:Int))+(128:Int))))])))
 else none
 else
 k (.inr (x.1,x.2))
instance n72n_bp0 (x:(Int×(List Int))):ParC (vhj x):=by unfold vhj;(try dsimp only);infer_instance
def v18 (a0:Int)(k:ByteArray→Option Res):Option Res:=
 vak vhj Fuel (a0,([]:List Int)) (fun z1=>
 if z1.2.length+[(IntKind.wrap .u8 z1.1)].length≤VE.maxLen then
 k (va3 (z1.2++[(IntKind.wrap .u8 z1.1)]))
 else none)
def vez:=shut v18
theorem v9o:vez=v18:=val _
instance n72n_p (a0:Int):ParC (vez a0):=by rw [v9o];unfold v18;(try dsimp only);infer_instance
def v64 (a0:ByteArray)(k:ByteArray→Option Res):Option Res:=
 vez (a0.size:Int) (fun y1=>
 if y1.size+a0.size≤1099511627776 then
 k (y1++a0)
 else none)
def vg9:=shut v64
theorem wcw:vg9=v64:=val _
instance n88n_p (a0:ByteArray):ParC (vg9 a0):=by rw [wcw];unfold v64;(try dsimp only);infer_instance
def wft (a0:Bool)(k:ByteArray→Option Res):Option Res:=
 bif a0 then
 k (⟨#[1]⟩:ByteArray)
 else
 k (⟨#[0]⟩:ByteArray)
def vp7:=shut wft
theorem wgi:vp7=wft:=val _
instance n84n_p (a0:Bool):ParC (vp7 a0):=by rw [wgi];unfold wft;(try dsimp only);infer_instance
def vlo (x:q38T)(k:q38T⊕q38T→Option Res):Option Res:=
 let xh:=x.2.2.2.2.2.2.2.2
 bif (decide (x.2.1<(x.2.2.2.2.2.2.1.length:Int)))then
 if 0≤x.2.1∧x.2.1<(x.2.2.2.2.2.2.1.length:Int)then
 if 0≤x.2.1∧x.2.1<(x.2.2.2.2.2.2.1.length:Int)then
 vg9 ((rd (Ty.zero tRange) x.2.2.2.2.2.2.1 x.2.1).1) (fun y12=>
 if x.1.size+y12.size≤1099511627776 then
 vg9 ((rd (Ty.zero tRange) x.2.2.2.2.2.2.1 x.2.1).2) (fun y13=>
 if(x.1++y12).size+y13.size≤1099511627776 then
 k (.inl (((x.1++y12)++y13),(IntKind.wrap .i64 (x.2.1+1)),x.2.2.1,x.2.2.2.1,x.2.2.2.2.1,x.2.2.2.2.2.1,x.2.2.2.2.2.2.1,x.2.2.2.2.2.2.2.1,xh.1,xh.2))
 else none)
 else none)
 else none
 else none
 else
 k (.inr (x.1,x.2.1,x.2.2.1,x.2.2.2.1,x.2.2.2.2.1,x.2.2.2.2.2.1,x.2.2.2.2.2.2.1,x.2.2.2.2.2.2.2.1,xh.1,xh.2))
instance n60n_bp0 (x:q38T):ParC (vlo x):=by unfold vlo;(try dsimp only);infer_instance
def vkl (x:q38T)(k:q38T⊕q38T→Option Res):Option Res:=
 let xh:=x.2.2.2.2.2.2.2.2
 let t0:=(rd (Ty.zero tWrite) x.2.2.2.2.2.2.2.1 x.2.1)
 bif (decide (x.2.1<(x.2.2.2.2.2.2.2.1.length:Int)))then
 if 0≤x.2.1∧x.2.1<(x.2.2.2.2.2.2.2.1.length:Int)then
 if 0≤x.2.1∧x.2.1<(x.2.2.2.2.2.2.2.1.length:Int)then
 if 0≤x.2.1∧x.2.1<(x.2.2.2.2.2.2.2.1.length:Int)then
 vg9 (t0.1) (fun y14=>
 if x.1.size+y14.size≤1099511627776 then
 vg9 (t0.2.1) (fun y15=>
 if(x.1++y14).size+y15.size≤1099511627776 then
 vp7 (t0.2.2) (fun y16=>
 if((x.1++y14)++y15).size+y16.size≤1099511627776 then
 k (.inl ((((x.1++y14)++y15)++y16),(IntKind.wrap .i64 (x.2.1+1)),x.2.2.1,x.2.2.2.1,x.2.2.2.2.1,x.2.2.2.2.2.1,x.2.2.2.2.2.2.1,x.2.2.2.2.2.2.2.1,xh.1,xh.2))
 else none)
 else none)
 else none)
 else none
 else none
 else none
 else
 k (.inr (x.1,x.2.1,x.2.2.1,x.2.2.2.1,x.2.2.2.2.1,x.2.2.2.2.2.1,x.2.2.2.2.2.2.1,x.2.2.2.2.2.2.2.1,xh.1,xh.2))
instance n60n_bp2 (x:q38T):ParC (vkl x):=by unfold vkl;(try dsimp only);infer_instance
def v9a (a0:dTxn)(k:(ByteArray×Bool)→Option Res):Option Res:=
 vi3 a0 (fun y1=>
 bif (!y1)then
 k ((⟨#[]⟩:ByteArray),false)
 else
 vez a0.1 (fun y2=>
 vez a0.2.1 (fun y3=>
 if y2.size+y3.size≤1099511627776 then
 vez a0.2.2.1 (fun y4=>
 if(y2++y3).size+y4.size≤1099511627776 then
 vez a0.2.2.2.1 (fun y5=>
 if((y2++y3)++y4).size+y5.size≤1099511627776 then
 vez (a0.2.2.2.2.1.length:Int) (fun y6=>
 if(((y2++y3)++y4)++y5).size+y6.size≤1099511627776 then
 vak vlo Fuel (((((y2++y3)++y4)++y5)++y6),0,a0.1,a0.2.1,a0.2.2.1,a0.2.2.2.1,a0.2.2.2.2.1,a0.2.2.2.2.2.1,a0.2.2.2.2.2.2.1,a0.2.2.2.2.2.2.2) (fun z7=>
 let z7h:=z7.2.2.2.2.2.2.2.2
 vez (z7.2.2.2.2.2.2.2.1.length:Int) (fun y8=>
 if z7.1.size+y8.size≤1099511627776 then
 vak vkl Fuel ((z7.1++y8),0,z7.2.2.1,z7.2.2.2.1,z7.2.2.2.2.1,z7.2.2.2.2.2.1,z7.2.2.2.2.2.2.1,z7.2.2.2.2.2.2.2.1,z7h.1,z7h.2) (fun z9=>
 let z9h:=z9.2.2.2.2.2.2.2.2
 vp7 z9h.1 (fun y10=>
 if z9.1.size+y10.size≤1099511627776 then
 vg9 z9h.2 (fun y11=>
 if(z9.1++y10).size+y11.size≤1099511627776 then
 k (((z9.1++y10)++y11),true)
 else none)
 else none))
 else none))
 else none)
 else none)
 else none)
 else none)))
def vq8:=shut v9a
theorem wgo:vq8=v9a:=val _
instance n60n_p (a0:dTxn):ParC (vq8 a0):=by rw [wgo];unfold v9a;(try dsimp only);exact⟨((n59n_p _).p.bind fun y1=>(vaj (vag _) ((n72n_p _).p.bind fun y2=>((n72n_p _).p.bind fun y3=>(vbf ((n72n_p _).p.bind fun y4=>(vbf ((n72n_p _).p.bind fun y5=>(vbf ((n72n_p _).p.bind fun y6=>(vbf ((ve1 (fun x=>(n60n_bp0 x).p) _ _).bind fun z7=>((n72n_p _).p.bind fun y8=>(vbf ((ve1 (fun x=>(n60n_bp2 x).p) _ _).bind fun z9=>((n84n_p _).p.bind fun y10=>(vbf ((n88n_p _).p.bind fun y11=>(vbf (vag _) vax)) vax))) vax))) vax)) vax)) vax)) vax)))))⟩
def vo8 (x:q45T)(k:q45T⊕q45T→Option Res):Option Res:=
 bif (decide (x.2.1<x.1))then
 vmx x.2.2.1 x.2.2.2.1 x.2.2.2.2.1 (fun y3=>
 if x.2.2.2.2.2.length+[(IntKind.wrap .u8 y3.1)].length≤VE.maxLen then
 k (.inl (x.1,(IntKind.wrap .i64 (x.2.1+(1:Int))),y3.2.1,y3.2.2.1,y3.2.2.2,(x.2.2.2.2.2++[(IntKind.wrap .u8 y3.1)])))
 else none)
 else
 k (.inr (x.1,x.2.1,x.2.2.1,x.2.2.2.1,x.2.2.2.2.1,x.2.2.2.2.2))
instance n71n_bp0 (x:q45T):ParC (vo8 x):=by unfold vo8;(try dsimp only);infer_instance
def vdj (x:q43T)(k:q43T→Option Res):Option Res:=
 vak vo8 Fuel (x.1,0,x.2.2.1,x.2.2.2.1,x.2.2.2.2,([]:List Int)) (fun z4=>
 k (z4.1,(va3 z4.2.2.2.2.2),z4.2.2.1,z4.2.2.2.1,z4.2.2.2.2.1))
instance n71n_jp5000003 (x:q43T):ParC (vdj x):=by unfold vdj;(try dsimp only);infer_instance
def v8u (a0:Int)(a1:(List Int))(a2:Int)(a3:Int)(k:q30T→Option Res):Option Res:=
 bif (decide (a0>5000))then
 vdj (5000,(⟨#[]⟩:ByteArray),a1,a2,a3) (fun z1=>
 k (z1.2.1,z1.2.2.1,z1.2.2.2.1,z1.2.2.2.2))
 else
 vdj (a0,(⟨#[]⟩:ByteArray),a1,a2,a3) (fun z2=>
 k (z2.2.1,z2.2.2.1,z2.2.2.2.1,z2.2.2.2.2))
def vw2:=shut v8u
theorem wgm:vw2=v8u:=val _
instance n71n_p (a0:Int)(a1:(List Int))(a2:Int)(a3:Int):ParC (vw2 a0 a1 a2 a3):=by rw [wgm];unfold v8u;(try dsimp only);infer_instance
def vcr (x:q32T)(k:(q32T⊕q32T)→Option Res):Option Res:=
 bif x.2.2.1 then
 bif (decide ((x.1.size:Int)>(0:Int)))then
 vcu (x.1.size:Int) x.2.2.2.1 x.2.2.2.2.1 x.2.2.2.2.2 (fun y8=>
 if 0≤(0:Int)∧(0:Int)≤y8.1∧y8.1≤(x.1.size:Int)then
 if 0≤(IntKind.wrap .i64 (y8.1+1))∧(IntKind.wrap .i64 (y8.1+1))≤(x.1.size:Int)∧(x.1.size:Int)≤(x.1.size:Int)then
 vw2 (1:Int) y8.2.1 y8.2.2.1 y8.2.2.2 (fun y9=>
 if(x.1.extract (0:Int).toNat y8.1.toNat).size+y9.1.size≤1099511627776 then
 if((x.1.extract (0:Int).toNat y8.1.toNat)++y9.1).size+(x.1.extract (IntKind.wrap .i64 (y8.1+1)).toNat (x.1.size:Int).toNat).size≤1099511627776 then
 k (.inl (x.1,(((x.1.extract (0:Int).toNat y8.1.toNat)++y9.1)++(x.1.extract (IntKind.wrap .i64 (y8.1+1)).toNat (x.1.size:Int).toNat)),x.2.2.1,y9.2.1,y9.2.2.1,y9.2.2.2))
 else none
 else none)
 else none
 else none)
 else
 k (.inr (x.1,x.2.1,x.2.2.1,x.2.2.2.1,x.2.2.2.2.1,x.2.2.2.2.2))
 else
 k (.inr (x.1,x.2.1,x.2.2.1,x.2.2.2.1,x.2.2.2.2.1,x.2.2.2.2.2))
instance n73n_jp15000008 (x:q32T):ParC (vcr x):=by unfold vcr;(try dsimp only);infer_instance
def v76 (a0:ByteArray)(a1:(List Int))(a2:Int)(a3:Int)(k:q30T→Option Res):Option Res:=
 vcu (12:Int) a1 a2 a3 (fun y1=>
 bif (y1.1==(0:Int))then
 vw2 (1:Int) y1.2.1 y1.2.2.1 y1.2.2.2 (fun y2=>
 if a0.size+y2.1.size≤1099511627776 then
 k ((a0++y2.1),y2.2.1,y2.2.2.1,y2.2.2.2)
 else none)
 else
 bif (y1.1==(1:Int))then
 vcu (IntKind.wrap .i64 ((a0.size:Int)+1)) y1.2.1 y1.2.2.1 y1.2.2.2 (fun y3=>
 if 0≤(0:Int)∧(0:Int)≤y3.1∧y3.1≤(a0.size:Int)then
 k ((a0.extract (0:Int).toNat y3.1.toNat),y3.2.1,y3.2.2.1,y3.2.2.2)
 else none)
 else
 bif (y1.1==(2:Int))then
 vcr (a0,(⟨#[]⟩:ByteArray),(y1.1==(2:Int)),y1.2.1,y1.2.2.1,y1.2.2.2) (Sum.elim (fun z4=>
 k (z4.2.1,z4.2.2.2.1,z4.2.2.2.2.1,z4.2.2.2.2.2)) (fun z5=>
 k (z5.1,z5.2.2.2.1,z5.2.2.2.2.1,z5.2.2.2.2.2)))
 else
 vcr (a0,(⟨#[]⟩:ByteArray),(y1.1==(3:Int)),y1.2.1,y1.2.2.1,y1.2.2.2) (Sum.elim (fun z6=>
 k (z6.2.1,z6.2.2.2.1,z6.2.2.2.2.1,z6.2.2.2.2.2)) (fun z7=>
 k (z7.1,z7.2.2.2.1,z7.2.2.2.2.1,z7.2.2.2.2.2))))
def v2e:=shut v76
theorem wej:v2e=v76:=val _
instance n73n_p (a0:ByteArray)(a1:(List Int))(a2:Int)(a3:Int):ParC (v2e a0 a1 a2 a3):=by rw [wej];unfold v76;(try dsimp only);exact⟨((n64n_p _ _ _ _).p.bind fun y1=>(vaj ((n71n_p _ _ _ _).p.bind fun y2=>(vbf (vag _) vax)) (vaj ((n64n_p _ _ _ _).p.bind fun y3=>(vbf (vag _) vax)) (vaj ((n73n_jp15000008 _).p.bind2 (fun z4=>(vag _)) (fun z5=>(vag _))) ((n73n_jp15000008 _).p.bind2 (fun z6=>(vag _)) (fun z7=>(vag _)))))))⟩
def v6k (a0:(List Int))(k:(ByteArray×Int)→Option Res):Option Res:=
 vn1 a0 (fun y1=>
 vcu (4:Int) y1.1 y1.2.1 y1.2.2 (fun y2=>
 voh y2.2.1 y2.2.2.1 y2.2.2.2 (fun y3=>
 let y3h:=y3.2.2.2.2.2.2.2.2
 vq8 (y3.1,(y3.2.1,(y3.2.2.1,(y3.2.2.2.1,(y3h.2.1,(y3h.2.2,(y3.2.2.2.2.1,y3.2.2.2.2.2.1))))))) (fun y4=>
 bif (y2.1==(0:Int))then
 v2e y4.1 y3.2.2.2.2.2.2.1 y3.2.2.2.2.2.2.2.1 y3h.1 (fun y5=>
 k (y5.1,0))
 else
 bif (y2.1==(1:Int))then
 if(⟨#[120]⟩:ByteArray).size+y4.1.size≤1099511627776 then
 k (((⟨#[120]⟩:ByteArray)++y4.1),1)
 else none
 else
 if y4.1.size+(⟨#[109,111,114,101]⟩:ByteArray).size≤1099511627776 then
 k ((y4.1++(⟨#[109,111,114,101]⟩:ByteArray)),0)
 else none))))
def v1d:=shut v6k
theorem wg1:v1d=v6k:=val _
instance n46n_p (a0:(List Int)):ParC (v1d a0):=by rw [wg1];unfold v6k;(try dsimp only);exact⟨((n68n_p _).p.bind fun y1=>((n64n_p _ _ _ _).p.bind fun y2=>((n83n_p _ _ _).p.bind fun y3=>((n60n_p _).p.bind fun y4=>(vaj ((n73n_p _ _ _ _).p.bind fun y5=>(vag _)) (vaj (vbf (vag _) vax) (vbf (vag _) vax)))))))⟩
def vey (x:q36T)(k:(q36T⊕q36T)→Option Res):Option Res:=
 let t0:=(IntKind.wrap .i64 (x.2.2.2.2.2.1+(IntKind.wrap .i64 (((IntKind.wrap .i64 (bt x.1 x.2.2.2.2.2.2.2)).tmod (128:Int))*x.2.2.2.2.2.2.1))))
 let t1:=(IntKind.wrap .i64 (x.2.2.2.2.2.2.2+(1:Int)))
 if 0≤x.2.2.2.2.2.2.2∧x.2.2.2.2.2.2.2<(x.1.size:Int)then
 if 0≤x.2.2.2.2.2.2.2∧x.2.2.2.2.2.2.2<(x.1.size:Int)then
 bif (decide ((bt x.1 x.2.2.2.2.2.2.2)<(128:Int)))then
 bif (decide (t0>1000000000))then
 k (.inl (x.1,x.2.1,0,0,false,t0,(IntKind.wrap .i64 (x.2.2.2.2.2.2.1*(128:Int))),x.2.2.2.2.2.2.2))
 else
 if 0≤x.2.1∧x.2.1≤t1∧t1≤(x.1.size:Int)then
 vez t0 (fun y6=>
 bif (!(vav y6 (x.1.extract x.2.1.toNat t1.toNat)))then
 k (.inl (x.1,x.2.1,0,0,false,t0,(IntKind.wrap .i64 (x.2.2.2.2.2.2.1*(128:Int))),x.2.2.2.2.2.2.2))
 else
 k (.inl (x.1,x.2.1,t0,t1,true,t0,(IntKind.wrap .i64 (x.2.2.2.2.2.2.1*(128:Int))),x.2.2.2.2.2.2.2)))
 else none
 else
 k (.inr (x.1,x.2.1,x.2.2.1,x.2.2.2.1,x.2.2.2.2.1,t0,(IntKind.wrap .i64 (x.2.2.2.2.2.2.1*(128:Int))),t1))
 else none
 else none
instance n57n_jp6000001 (x:q36T):ParC (vey x):=by unfold vey;(try dsimp only);infer_instance
def vk1 (x:q36T)(k:q36T⊕(q36T⊕q36T)→Option Res):Option Res:=
 bif (decide (x.2.2.2.2.2.2.2<(x.1.size:Int)))then
 bif (decide (x.2.2.2.2.2.2.2<(IntKind.wrap .i64 (x.2.1+5))))then
 vey (x.1,x.2.1,x.2.2.1,x.2.2.2.1,x.2.2.2.2.1,x.2.2.2.2.2.1,x.2.2.2.2.2.2.1,x.2.2.2.2.2.2.2) (Sum.elim (fun z4=>
 k (.inr (.inr (z4.1,z4.2.1,z4.2.2.1,z4.2.2.2.1,z4.2.2.2.2.1,z4.2.2.2.2.2.1,z4.2.2.2.2.2.2.1,z4.2.2.2.2.2.2.2)))) (fun z5=>
 k (.inl (z5.1,z5.2.1,z5.2.2.1,z5.2.2.2.1,z5.2.2.2.2.1,z5.2.2.2.2.2.1,z5.2.2.2.2.2.2.1,z5.2.2.2.2.2.2.2))))
 else
 k (.inr (.inl (x.1,x.2.1,x.2.2.1,x.2.2.2.1,x.2.2.2.2.1,x.2.2.2.2.2.1,x.2.2.2.2.2.2.1,x.2.2.2.2.2.2.2)))
 else
 k (.inr (.inl (x.1,x.2.1,x.2.2.1,x.2.2.2.1,x.2.2.2.2.1,x.2.2.2.2.2.1,x.2.2.2.2.2.2.1,x.2.2.2.2.2.2.2)))
instance n57n_bp0 (x:q36T):ParC (vk1 x):=by unfold vk1;(try dsimp only);infer_instance
def v6i (a0:ByteArray)(a1:Int)(k:(Int×Int×Bool)→Option Res):Option Res:=
 vgs a1 (0:Int) (a0.size:Int) (fun y1=>
 bif (!y1)then
 k (0,0,false)
 else
 vak vk1 Fuel (a0,a1,0,0,false,0,1,a1) (Sum.elim (fun _=>
 k (0,0,false)) (fun z3=>
 k (z3.2.2.1,z3.2.2.2.1,z3.2.2.2.2.1))))
def vw0:=shut v6i
theorem wc5:vw0=v6i:=val _
instance n57n_p (a0:ByteArray)(a1:Int):ParC (vw0 a0 a1):=by rw [wc5];unfold v6i;(try dsimp only);infer_instance
def v5x (a0:ByteArray)(a1:Int)(a2:Bool)(k:(Int×ByteArray×Int×Bool)→Option Res):Option Res:=
 vw0 a0 a1 (fun y1=>
 bif a2 then
 k (0,a0,a1,true)
 else
 bif (!y1.2.2)then
 k (0,a0,a1,true)
 else
 k (y1.1,a0,y1.2.1,a2))
def vmo:=shut v5x
theorem wgk:vmo=v5x:=val _
instance n90n_p (a0:ByteArray)(a1:Int)(a2:Bool):ParC (vmo a0 a1 a2):=by rw [wgk];unfold v5x;(try dsimp only);infer_instance
def v8i (a0:ByteArray)(a1:Int)(k:(ByteArray×Int×Bool)→Option Res):Option Res:=
 vw0 a0 a1 (fun y1=>
 bif (!y1.2.2)then
 k ((⟨#[]⟩:ByteArray),0,false)
 else
 bif (decide (y1.1>20000))then
 k ((⟨#[]⟩:ByteArray),0,false)
 else
 bif (decide (y1.1>(IntKind.wrap .i64 ((a0.size:Int)-y1.2.1))))then
 k ((⟨#[]⟩:ByteArray),0,false)
 else
 if 0≤y1.2.1∧y1.2.1≤(IntKind.wrap .i64 (y1.2.1+y1.1))∧(IntKind.wrap .i64 (y1.2.1+y1.1))≤(a0.size:Int)then
 k ((a0.extract y1.2.1.toNat (IntKind.wrap .i64 (y1.2.1+y1.1)).toNat),(IntKind.wrap .i64 (y1.2.1+y1.1)),true)
 else none)
def v0n:=shut v8i
theorem wgb:v0n=v8i:=val _
instance n55n_p (a0:ByteArray)(a1:Int):ParC (v0n a0 a1):=by rw [wgb];unfold v8i;(try dsimp only);infer_instance
def v7s (a0:ByteArray)(a1:Int)(a2:Bool)(k:q33T→Option Res):Option Res:=
 v0n a0 a1 (fun y1=>
 bif a2 then
 k ((⟨#[]⟩:ByteArray),a0,a1,true)
 else
 bif (!y1.2.2)then
 k ((⟨#[]⟩:ByteArray),a0,a1,true)
 else
 k (y1.1,a0,y1.2.1,a2))
def vob:=shut v7s
theorem wga:vob=v7s:=val _
instance n87n_p (a0:ByteArray)(a1:Int)(a2:Bool):ParC (vob a0 a1 a2):=by rw [wga];unfold v7s;(try dsimp only);infer_instance
def vep (x:q18T)(k:q18T→Option Res):Option Res:=
 if 0≤(IntKind.wrap .i64 ((IntKind.wrap .i64 (x.2.2.1+1))-1))∧(IntKind.wrap .i64 ((IntKind.wrap .i64 (x.2.2.1+1))-1))<(x.2.1.size:Int)then
 k (((bt x.2.1 (IntKind.wrap .i64 ((IntKind.wrap .i64 (x.2.2.1+1))-1)))==(1:Int)),x.2.1,(IntKind.wrap .i64 (x.2.2.1+1)),x.2.2.2)
 else none
instance n86n_jp5000004 (x:q18T):ParC (vep x):=by unfold vep;(try dsimp only);infer_instance
def v69 (a0:ByteArray)(a1:Int)(a2:Bool)(k:q18T→Option Res):Option Res:=
 bif a2 then
 k (false,a0,a1,true)
 else
 bif (decide (a1≥(a0.size:Int)))then
 k (false,a0,a1,true)
 else
 if 0≤a1∧a1<(a0.size:Int)then
 bif (decide ((bt a0 a1)>(1:Int)))then
 k (false,a0,a1,true)
 else
 vep (false,a0,a1,a2) (fun z1=>
 k (z1.1,z1.2.1,z1.2.2.1,z1.2.2.2))
 else none
def vw7:=shut v69
theorem wdb:vw7=v69:=val _
instance n86n_p (a0:ByteArray)(a1:Int)(a2:Bool):ParC (vw7 a0 a1 a2):=by rw [wdb];unfold v69;(try dsimp only);infer_instance
def vgc (x:q58T)(k:q42T→Option Res):Option Res:=
 let xh:=x.2.2.2.2.2.2.2.2
 let xhh:=xh.2.2.2.2.2.2.2.2
 k (x.2.2.2.2.2.2.2.1,true,xh.2.1,xh.2.2.1,xh.2.2.2.1,xh.2.2.2.2.1,xh.2.2.2.2.2.1,xh.2.2.2.2.2.2.1,x.2.2.2.2.2.2.1,x.2.2.2.2.2.2.2.1,xh.1,xh.2.1,xh.2.2.1,xh.2.2.2.1,xh.2.2.2.2.1,xh.2.2.2.2.2.1,xh.2.2.2.2.2.2.1,xhh.2.1,xhh.2.2)
instance n56n_jp5000025 (x:q58T):ParC (vgc x):=by unfold vgc;(try dsimp only);infer_instance
def ve2 (x:q61T)(k:q61T→Option Res):Option Res:=
 let xh:=x.2.2.2.2.2.2.2.2
 let xhh:=xh.2.2.2.2.2.2.2.2
 vob xh.1 xh.2.1 xh.2.2.1 (fun y15=>
 vob y15.2.1 y15.2.2.1 y15.2.2.2 (fun y16=>
 if xhh.2.length+[(y15.1,y16.1)].length≤VE.maxLen then
 k (x.1,(IntKind.wrap .i64 (x.2.1+(1:Int))),x.2.2.1,x.2.2.2.1,x.2.2.2.2.1,x.2.2.2.2.2.1,x.2.2.2.2.2.2.1,x.2.2.2.2.2.2.2.1,y16.2.1,y16.2.2.1,y16.2.2.2,xh.2.2.2.1,xh.2.2.2.2.1,xh.2.2.2.2.2.1,xh.2.2.2.2.2.2.1,xh.2.2.2.2.2.2.2.1,xhh.1,(xhh.2++[(y15.1,y16.1)]))
 else none))
instance n56n_jp6000001 (x:q61T):ParC (ve2 x):=by unfold ve2;(try dsimp only);infer_instance
def vlt (x:q61T)(k:q61T⊕q61T→Option Res):Option Res:=
 let xh:=x.2.2.2.2.2.2.2.2
 let xhh:=xh.2.2.2.2.2.2.2.2
 let t0:=(x.1,x.2.1,x.2.2.1,x.2.2.2.1,x.2.2.2.2.1,x.2.2.2.2.2.1,x.2.2.2.2.2.2.1,x.2.2.2.2.2.2.2.1,xh.1,xh.2.1,xh.2.2.1,xh.2.2.2.1,xh.2.2.2.2.1,xh.2.2.2.2.2.1,xh.2.2.2.2.2.2.1,xh.2.2.2.2.2.2.2.1,xhh.1,xhh.2)
 bif (decide (x.2.1<x.1))then
 bif (decide (x.2.1<10))then
 bif (!xh.2.2.1)then
 ve2 t0 (fun z13=>
 let z13h:=z13.2.2.2.2.2.2.2.2
 let z13hh:=z13h.2.2.2.2.2.2.2.2
 k (.inl (z13.1,z13.2.1,z13.2.2.1,z13.2.2.2.1,z13.2.2.2.2.1,z13.2.2.2.2.2.1,z13.2.2.2.2.2.2.1,z13.2.2.2.2.2.2.2.1,z13h.1,z13h.2.1,z13h.2.2.1,z13h.2.2.2.1,z13h.2.2.2.2.1,z13h.2.2.2.2.2.1,z13h.2.2.2.2.2.2.1,z13h.2.2.2.2.2.2.2.1,z13hh.1,z13hh.2)))
 else
 k (.inr t0)
 else
 k (.inr t0)
 else
 k (.inr t0)
instance n56n_bp0 (x:q61T):ParC (vlt x):=by unfold vlt;(try dsimp only);infer_instance
def ve0 (x:q60T)(k:q60T→Option Res):Option Res:=
 let xh:=x.2.2.2.2.2.2.2.2
 let xhh:=xh.2.2.2.2.2.2.2.2
 vob xh.1 xh.2.1 xh.2.2.1 (fun y17=>
 vob y17.2.1 y17.2.2.1 y17.2.2.2 (fun y18=>
 vw7 y18.2.1 y18.2.2.1 y18.2.2.2 (fun y19=>
 if xhh.2.2.length+[(y17.1,(y18.1,y19.1))].length≤VE.maxLen then
 k (x.1,(IntKind.wrap .i64 (x.2.1+(1:Int))),x.2.2.1,x.2.2.2.1,x.2.2.2.2.1,x.2.2.2.2.2.1,x.2.2.2.2.2.2.1,x.2.2.2.2.2.2.2.1,y19.2.1,y19.2.2.1,y19.2.2.2,xh.2.2.2.1,xh.2.2.2.2.1,xh.2.2.2.2.2.1,xh.2.2.2.2.2.2.1,xh.2.2.2.2.2.2.2.1,xhh.1,xhh.2.1,(xhh.2.2++[(y17.1,(y18.1,y19.1))]))
 else none)))
instance n56n_jp6000003 (x:q60T):ParC (ve0 x):=by unfold ve0;(try dsimp only);infer_instance
def vkr (x:q60T)(k:q60T⊕q60T→Option Res):Option Res:=
 let xh:=x.2.2.2.2.2.2.2.2
 let xhh:=xh.2.2.2.2.2.2.2.2
 let t0:=(x.1,x.2.1,x.2.2.1,x.2.2.2.1,x.2.2.2.2.1,x.2.2.2.2.2.1,x.2.2.2.2.2.2.1,x.2.2.2.2.2.2.2.1,xh.1,xh.2.1,xh.2.2.1,xh.2.2.2.1,xh.2.2.2.2.1,xh.2.2.2.2.2.1,xh.2.2.2.2.2.2.1,xh.2.2.2.2.2.2.2.1,xhh.1,xhh.2.1,xhh.2.2)
 bif (decide (x.2.1<x.1))then
 bif (decide (x.2.1<10))then
 bif (!xh.2.2.1)then
 ve0 t0 (fun z14=>
 let z14h:=z14.2.2.2.2.2.2.2.2
 let z14hh:=z14h.2.2.2.2.2.2.2.2
 k (.inl (z14.1,z14.2.1,z14.2.2.1,z14.2.2.2.1,z14.2.2.2.2.1,z14.2.2.2.2.2.1,z14.2.2.2.2.2.2.1,z14.2.2.2.2.2.2.2.1,z14h.1,z14h.2.1,z14h.2.2.1,z14h.2.2.2.1,z14h.2.2.2.2.1,z14h.2.2.2.2.2.1,z14h.2.2.2.2.2.2.1,z14h.2.2.2.2.2.2.2.1,z14hh.1,z14hh.2.1,z14hh.2.2)))
 else
 k (.inr t0)
 else
 k (.inr t0)
 else
 k (.inr t0)
instance n56n_bp2 (x:q60T):ParC (vkr x):=by unfold vkr;(try dsimp only);infer_instance
def v6x (a0:ByteArray)(a1:Int)(k:q59T→Option Res):Option Res:=
 vmo a0 a1 false (fun y1=>
 vmo y1.2.1 y1.2.2.1 y1.2.2.2 (fun y2=>
 vmo y2.2.1 y2.2.2.1 y2.2.2.2 (fun y3=>
 vmo y3.2.1 y3.2.2.1 y3.2.2.2 (fun y4=>
 vmo y4.2.1 y4.2.2.1 y4.2.2.2 (fun y5=>
 vak vlt Fuel (y5.1,0,0,0,0,0,false,(⟨#[]⟩:ByteArray),y5.2.1,y5.2.2.1,y5.2.2.2,y1.1,y2.1,y3.1,y4.1,false,(⟨#[]⟩:ByteArray),([]:List vad)) (fun z6=>
 let z6h:=z6.2.2.2.2.2.2.2.2
 let z6hh:=z6h.2.2.2.2.2.2.2.2
 vmo z6h.1 z6h.2.1 z6h.2.2.1 (fun y7=>
 vak vkr Fuel (y7.1,0,z6.2.2.1,z6.2.2.2.1,z6.2.2.2.2.1,z6.2.2.2.2.2.1,z6.2.2.2.2.2.2.1,z6.2.2.2.2.2.2.2.1,y7.2.1,y7.2.2.1,y7.2.2.2,z6h.2.2.2.1,z6h.2.2.2.2.1,z6h.2.2.2.2.2.1,z6h.2.2.2.2.2.2.1,z6h.2.2.2.2.2.2.2.1,z6hh.1,z6hh.2,([]:List vaa)) (fun z8=>
 let z8h:=z8.2.2.2.2.2.2.2.2
 let z8hh:=z8h.2.2.2.2.2.2.2.2
 vw7 z8h.1 z8h.2.1 z8h.2.2.1 (fun y9=>
 vob y9.2.1 y9.2.2.1 y9.2.2.2 (fun y10=>
 bif y10.2.2.2 then
 k (0,0,0,0,false,(⟨#[]⟩:ByteArray),0,false,([]:List vad),([]:List vaa))
 else
 vi3 (z8h.2.2.2.1,(z8h.2.2.2.2.1,(z8h.2.2.2.2.2.1,(z8h.2.2.2.2.2.2.1,(z8hh.2.1,(z8hh.2.2,(y9.1,y10.1))))))) (fun y11=>
 bif (!y11)then
 k (0,0,0,0,false,(⟨#[]⟩:ByteArray),0,false,([]:List vad),([]:List vaa))
 else
 vgc (z8.2.2.1,z8.2.2.2.1,z8.2.2.2.2.1,z8.2.2.2.2.2.1,z8.2.2.2.2.2.2.1,z8.2.2.2.2.2.2.2.1,y10.2.1,y10.2.2.1,y10.2.2.2,z8h.2.2.2.1,z8h.2.2.2.2.1,z8h.2.2.2.2.2.1,z8h.2.2.2.2.2.2.1,y9.1,y10.1,([]:List vad),([]:List vaa),z8hh.2.1,z8hh.2.2) (fun z12=>
 let z12h:=z12.2.2.2.2.2.2.2.2
 let z12hh:=z12h.2.2.2.2.2.2.2.2
 k (z12.2.2.1,z12.2.2.2.1,z12.2.2.2.2.1,z12.2.2.2.2.2.1,z12.2.2.2.2.2.2.1,z12.2.2.2.2.2.2.2.1,z12.1,z12.2.1,z12hh.2.1,z12hh.2.2)))))))))))))
def v0k:=shut v6x
theorem wds:v0k=v6x:=val _
instance n56n_p (a0:ByteArray)(a1:Int):ParC (v0k a0 a1):=by rw [wds];unfold v6x;(try dsimp only);exact⟨((n90n_p _ _ _).p.bind fun y1=>((n90n_p _ _ _).p.bind fun y2=>((n90n_p _ _ _).p.bind fun y3=>((n90n_p _ _ _).p.bind fun y4=>((n90n_p _ _ _).p.bind fun y5=>((ve1 (fun x=>(n56n_bp0 x).p) _ _).bind fun z6=>((n90n_p _ _ _).p.bind fun y7=>((ve1 (fun x=>(n56n_bp2 x).p) _ _).bind fun z8=>((n86n_p _ _ _).p.bind fun y9=>((n87n_p _ _ _).p.bind fun y10=>(vaj (vag _) ((n59n_p _).p.bind fun y11=>(vaj (vag _) ((n56n_jp5000025 _).p.bind fun z12=>(vag _)))))))))))))))⟩
def vcz (x:q52T)(k:q53T→Option Res):Option Res:=
 let xh:=x.2.2.2.2.2.2.2.2
 let xhh:=xh.2.2.2.2.2.2.2.2
 let t0:=(xh.2.2.2.1,xh.2.2.2.2.1)
 vnz (10:Int) xh.1 xh.2.1 xh.2.2.1 (fun y8=>
 bif y8.1 then
 k (xh.2.2.2.2.2.1,xh.2.2.2.2.2.2.1,xh.2.2.2.2.2.2.2.1,xhh.1,xhh.2.1,xhh.2.2.1,xh.2.2.2.1,(⟨#[122,122]⟩:ByteArray),y8.2.1,y8.2.2.1,y8.2.2.2,xh.2.2.2.1,(⟨#[122,122]⟩:ByteArray),xh.2.2.2.2.2.1,xh.2.2.2.2.2.2.1,xh.2.2.2.2.2.2.2.1,xhh.1,xhh.2.1,xhh.2.2.1,[t0,t0,t0,t0,t0,t0,t0,((⟨#[120]⟩:ByteArray),(⟨#[121]⟩:ByteArray))],xhh.2.2.2.2.2.2)
 else
 k (xh.2.2.2.2.2.1,xh.2.2.2.2.2.2.1,xh.2.2.2.2.2.2.2.1,xhh.1,xhh.2.1,xhh.2.2.1,xh.2.2.2.1,xh.2.2.2.2.1,y8.2.1,y8.2.2.1,y8.2.2.2,xh.2.2.2.1,xh.2.2.2.2.1,xh.2.2.2.2.2.1,xh.2.2.2.2.2.2.1,xh.2.2.2.2.2.2.2.1,xhh.1,xhh.2.1,xhh.2.2.1,xhh.2.2.2.2.2.1,xhh.2.2.2.2.2.2))
instance n45n_jp5000007 (x:q52T):ParC (vcz x):=by unfold vcz;(try dsimp only);infer_instance
def v6o (a0:(List Int))(k:q54T→Option Res):Option Res:=
 vn1 a0 (fun y1=>
 vcu (3:Int) y1.1 y1.2.1 y1.2.2 (fun y2=>
 vxl y2.2.1 y2.2.2.1 y2.2.2.2 (fun y3=>
 voh y3.2.2.1 y3.2.2.2.1 y3.2.2.2.2 (fun y4=>
 let y4h:=y4.2.2.2.2.2.2.2.2
 bif (decide (y2.1>0))then
 vv1 y4.2.2.2.2.2.2.1 y4.2.2.2.2.2.2.2.1 y4h.1 (fun y5=>
 vcz (0,0,0,0,false,(⟨#[]⟩:ByteArray),(⟨#[]⟩:ByteArray),(⟨#[]⟩:ByteArray),y5.1,y5.2.1,y5.2.2.1,y3.1,y3.2.1,1,1,2,0,false,(⟨#[]⟩:ByteArray),([]:List vad),([]:List vaa),y5.2.2.2,([]:List vaa)) (fun z6=>
 let z6h:=z6.2.2.2.2.2.2.2.2
 let z6hh:=z6h.2.2.2.2.2.2.2.2
 k (z6.1,z6.2.1,z6.2.2.1,z6.2.2.2.1,z6.2.2.2.2.1,z6.2.2.2.2.2.1,z6.2.2.2.2.2.2.1,z6.2.2.2.2.2.2.2.1,z6hh.2.2.2.1,z6hh.2.2.2.2)))
 else
 vcz (0,0,0,0,false,(⟨#[]⟩:ByteArray),(⟨#[]⟩:ByteArray),(⟨#[]⟩:ByteArray),y4.2.2.2.2.2.2.1,y4.2.2.2.2.2.2.2.1,y4h.1,y3.1,y3.2.1,y4.1,y4.2.1,y4.2.2.1,y4.2.2.2.1,y4.2.2.2.2.1,y4.2.2.2.2.2.1,([]:List vad),([]:List vaa),y4h.2.1,y4h.2.2) (fun z7=>
 let z7h:=z7.2.2.2.2.2.2.2.2
 let z7hh:=z7h.2.2.2.2.2.2.2.2
 k (z7.1,z7.2.1,z7.2.2.1,z7.2.2.2.1,z7.2.2.2.2.1,z7.2.2.2.2.2.1,z7.2.2.2.2.2.2.1,z7.2.2.2.2.2.2.2.1,z7hh.2.2.2.1,z7hh.2.2.2.2))))))
def v2f:=shut v6o
theorem we5:v2f=v6o:=val _
instance n45n_p (a0:(List Int)):ParC (v2f a0):=by rw [we5];unfold v6o;(try dsimp only);exact⟨((n68n_p _).p.bind fun y1=>((n64n_p _ _ _ _).p.bind fun y2=>((n76n_p _ _ _).p.bind fun y3=>((n83n_p _ _ _).p.bind fun y4=>(vaj ((n77n_p _ _ _).p.bind fun y5=>((n45n_jp5000007 _).p.bind fun z6=>(vag _))) ((n45n_jp5000007 _).p.bind fun z7=>(vag _)))))))⟩
def v8w (a0:dTxn)(k:q49T→Option Res):Option Res:=
 if a0.2.2.2.2.1.length≤VE.maxLen then
 if a0.2.2.2.2.2.1.length≤VE.maxLen then
 k (a0.1,a0.2.1,a0.2.2.1,a0.2.2.2.1,a0.2.2.2.2.2.2.1,a0.2.2.2.2.2.2.2,a0.2.2.2.2.1,a0.2.2.2.2.2.1)
 else none
 else none
def vmy:=shut v8w
theorem wd0:vmy=v8w:=val _
instance n16n_p (a0:dTxn):ParC (vmy a0):=by rw [wd0];unfold v8w;(try dsimp only);infer_instance
def vki (x:q5T)(k:q5T⊕(q5T⊕q5T)→Option Res):Option Res:=
 bif (decide (x.2.2.2.1<x.2.2.1))then
 if 0≤x.2.2.2.1∧x.2.2.2.1<(x.1.length:Int)then
 bif (Ty.eqB tRange x.2.2.2.2 (rd (Ty.zero tRange) x.1 x.2.2.2.1))then
 k (.inr (.inl (x.1,x.2.2.2.1,x.2.2.1,x.2.2.2.1,x.2.2.2.2.1,x.2.2.2.2.2)))
 else
 k (.inl (x.1,x.2.1,x.2.2.1,(IntKind.wrap .i64 (x.2.2.2.1+1)),x.2.2.2.2.1,x.2.2.2.2.2))
 else none
 else
 k (.inr (.inr (x.1,x.2.1,x.2.2.1,x.2.2.2.1,x.2.2.2.2.1,x.2.2.2.2.2)))
instance n42n_bp0 (x:q5T):ParC (vki x):=by unfold vki;(try dsimp only);infer_instance
def v6v (a0:(List vad))(a1:vad)(k:Int→Option Res):Option Res:=
 vak vki Fuel (a0,0,(a0.length:Int),0,a1.1,a1.2) (Sum.elim (fun z1=>
 k z1.2.1) (fun _=>
 k (-1:Int)))
def v23:=shut v6v
theorem wck:v23=v6v:=val _
instance n42n_p (a0:(List vad))(a1:vad):ParC (v23 a0 a1):=by rw [wck];unfold v6v;(try dsimp only);infer_instance
def v85 (a0:(List vad))(a1:vad)(k:Bool→Option Res):Option Res:=
 v23 a0 a1 (fun y1=>
 k (decide (y1≥0)))
def vwl:=shut v85
theorem wcr:vwl=v85:=val _
instance n40n_p (a0:(List vad))(a1:vad):ParC (vwl a0 a1):=by rw [wcr];unfold v85;(try dsimp only);infer_instance
def vdk (x:q21T)(k:q22T→Option Res):Option Res:=
 let xh:=x.2.2.2.2.2.2.2.2
 let xhh:=xh.2.2.2.2.2.2.2.2
 let xhhh:=xhh.2.2.2.2.2.2.2.2
 let t0:=(xh.2.1,xh.2.2.1)
 vwl x.2.2.2.2.2.1 t0 (fun y5=>
 bif y5 then
 k (true,x.2.1,x.2.2.1,x.2.2.2.1,x.2.2.2.2.1,x.2.2.2.2.2.1,x.2.2.2.2.2.2.1,x.2.2.2.2.2.2.2.1,xh.1,xh.2.1,xh.2.2.1,xhh.2.1,xhh.2.2.1,xhh.2.2.2.1,xhh.2.2.2.2.1,xhh.2.2.2.2.2.1,xhh.2.2.2.2.2.2.1,xhh.2.1,xhh.2.2.1,xhh.2.2.2.1,xhh.2.2.2.2.1,xhh.2.2.2.2.2.1,xhh.2.2.2.2.2.2.1,xhhh.2.1,xhhh.2.2)
 else
 bif ((x.2.2.2.2.2.1.length:Int)==(8:Int))then
 k (false,x.2.1,x.2.2.1,x.2.2.2.1,x.2.2.2.2.1,x.2.2.2.2.2.1,x.2.2.2.2.2.2.1,x.2.2.2.2.2.2.2.1,xh.1,xh.2.1,xh.2.2.1,xhh.2.1,xhh.2.2.1,xhh.2.2.2.1,xhh.2.2.2.2.1,xhh.2.2.2.2.2.1,xhh.2.2.2.2.2.2.1,xhh.2.1,xhh.2.2.1,xhh.2.2.2.1,xhh.2.2.2.2.1,xhh.2.2.2.2.2.1,xhh.2.2.2.2.2.2.1,xhhh.2.1,xhhh.2.2)
 else
 if xhhh.2.1.length+[t0].length≤VE.maxLen then
 k (true,x.2.1,x.2.2.1,x.2.2.2.1,x.2.2.2.2.1,x.2.2.2.2.2.1,x.2.2.2.2.2.2.1,x.2.2.2.2.2.2.2.1,xh.1,xh.2.1,xh.2.2.1,xhh.2.1,xhh.2.2.1,xhh.2.2.2.1,xhh.2.2.2.2.1,xhh.2.2.2.2.2.1,xhh.2.2.2.2.2.2.1,xhh.2.1,xhh.2.2.1,xhh.2.2.2.1,xhh.2.2.2.2.1,xhh.2.2.2.2.2.1,xhh.2.2.2.2.2.2.1,(xhhh.2.1++[t0]),xhhh.2.2)
 else none)
instance n04n_jp5000004 (x:q21T):ParC (vdk x):=by unfold vdk;(try dsimp only);infer_instance
def v7v (a0:dTxn)(a1:vad)(k:q50T→Option Res):Option Res:=
 vmy a0 (fun y1=>
 vgp a0 (fun y2=>
 bif (!y2)then
 k (y1.1,y1.2.1,y1.2.2.1,y1.2.2.2.1,y1.2.2.2.2.1,y1.2.2.2.2.2.1,false,y1.2.2.2.2.2.2.1,y1.2.2.2.2.2.2.2)
 else
 bif (a0.2.1 != (1:Int))then
 k (y1.1,y1.2.1,y1.2.2.1,y1.2.2.2.1,y1.2.2.2.2.1,y1.2.2.2.2.2.1,false,y1.2.2.2.2.2.2.1,y1.2.2.2.2.2.2.2)
 else
 vqe a1 (fun y3=>
 bif (!y3)then
 k (y1.1,y1.2.1,y1.2.2.1,y1.2.2.2.1,y1.2.2.2.2.1,y1.2.2.2.2.2.1,false,y1.2.2.2.2.2.2.1,y1.2.2.2.2.2.2.2)
 else
 vdk (false,a0.1,a0.2.1,a0.2.2.1,a0.2.2.2.1,a0.2.2.2.2.1,a0.2.2.2.2.2.1,a0.2.2.2.2.2.2.1,a0.2.2.2.2.2.2.2,a1.1,a1.2,0,0,0,0,false,(⟨#[]⟩:ByteArray),y1.1,y1.2.1,y1.2.2.1,y1.2.2.2.1,y1.2.2.2.2.1,y1.2.2.2.2.2.1,([]:List vad),([]:List vaa),y1.2.2.2.2.2.2.1,y1.2.2.2.2.2.2.2) (fun z4=>
 let z4h:=z4.2.2.2.2.2.2.2.2
 let z4hh:=z4h.2.2.2.2.2.2.2.2
 k (z4h.2.2.2.1,z4h.2.2.2.2.1,z4h.2.2.2.2.2.1,z4h.2.2.2.2.2.2.1,z4h.2.2.2.2.2.2.2.1,z4hh.1,z4.1,z4hh.2.2.2.2.2.2.2.1,z4hh.2.2.2.2.2.2.2.2)))))
def vvy:=shut v7v
theorem wca:vvy=v7v:=val _
instance n04n_p (a0:dTxn)(a1:vad):ParC (vvy a0 a1):=by rw [wca];unfold v7v;(try dsimp only);infer_instance
def vkg (x:q26T)(k:q26T⊕(q26T⊕q27T)→Option Res):Option Res:=
 let xh:=x.2.2.2.2.2.2.2.2
 let xhh:=xh.2.2.2.2.2.2.2.2
 let xhhh:=xhh.2.2.2.2.2.2.2.2
 bif (decide (x.2.1<(x.2.2.2.2.2.2.1.length:Int)))then
 if 0≤x.2.1∧x.2.1<(x.2.2.2.2.2.2.1.length:Int)then
 bif (Ty.eqB tRange (rd (Ty.zero tRange) x.2.2.2.2.2.2.1 x.2.1) (xh.2.2.1,xh.2.2.2.1))then
 k (.inr (.inr (true,x.2.1,x.2.2.1,x.2.2.2.1,x.2.2.2.2.1,x.2.2.2.2.2.1,x.2.2.2.2.2.2.1,x.2.2.2.2.2.2.2.1,xh.1,xh.2.1,xh.2.2.1,xh.2.2.2.1,xhh.2.2.1,xhh.2.2.2.1,xhh.2.2.2.2.1,xhh.2.2.2.2.2.1,xhh.2.2.2.2.2.2.1,xhh.2.2.2.2.2.2.2.1,xhh.2.2.1,xhh.2.2.2.1,xhh.2.2.2.2.1,xhh.2.2.2.2.2.1,xhh.2.2.2.2.2.2.1,xhh.2.2.2.2.2.2.2.1,xhhh.2.2.1,xhhh.2.2.2)))
 else
 k (.inl (x.1,(IntKind.wrap .i64 (x.2.1+1)),x.2.2.1,x.2.2.2.1,x.2.2.2.2.1,x.2.2.2.2.2.1,x.2.2.2.2.2.2.1,x.2.2.2.2.2.2.2.1,xh.1,xh.2.1,xh.2.2.1,xh.2.2.2.1,xh.2.2.2.2.1,xh.2.2.2.2.2.1,xh.2.2.2.2.2.2.1,xh.2.2.2.2.2.2.2.1,xhh.1,xhh.2.1,xhh.2.2.1,xhh.2.2.2.1,xhh.2.2.2.2.1,xhh.2.2.2.2.2.1,xhh.2.2.2.2.2.2.1,xhh.2.2.2.2.2.2.2.1,xhhh.1,xhhh.2.1,xhhh.2.2.1,xhhh.2.2.2))
 else none
 else
 k (.inr (.inl (x.1,x.2.1,x.2.2.1,x.2.2.2.1,x.2.2.2.2.1,x.2.2.2.2.2.1,x.2.2.2.2.2.2.1,x.2.2.2.2.2.2.2.1,xh.1,xh.2.1,xh.2.2.1,xh.2.2.2.1,xh.2.2.2.2.1,xh.2.2.2.2.2.1,xh.2.2.2.2.2.2.1,xh.2.2.2.2.2.2.2.1,xhh.1,xhh.2.1,xhh.2.2.1,xhh.2.2.2.1,xhh.2.2.2.2.1,xhh.2.2.2.2.2.1,xhh.2.2.2.2.2.2.1,xhh.2.2.2.2.2.2.2.1,xhhh.1,xhhh.2.1,xhhh.2.2.1,xhhh.2.2.2)))
instance n54n_bp0 (x:q26T):ParC (vkg x):=by unfold vkg;(try dsimp only);infer_instance
def vdr (x:q21T)(k:q22T→Option Res):Option Res:=
 let xh:=x.2.2.2.2.2.2.2.2
 let xhh:=xh.2.2.2.2.2.2.2.2
 let xhhh:=xhh.2.2.2.2.2.2.2.2
 vak vkg Fuel (x.1,0,x.2.1,x.2.2.1,x.2.2.2.1,x.2.2.2.2.1,x.2.2.2.2.2.1,x.2.2.2.2.2.2.1,x.2.2.2.2.2.2.2.1,xh.1,xh.2.1,xh.2.2.1,xh.2.2.2.1,xh.2.2.2.2.1,xh.2.2.2.2.2.1,xh.2.2.2.2.2.2.1,xh.2.2.2.2.2.2.2.1,xhh.1,xhh.2.1,xhh.2.2.1,xhh.2.2.2.1,xhh.2.2.2.2.1,xhh.2.2.2.2.2.1,xhh.2.2.2.2.2.2.1,xhh.2.2.2.2.2.2.2.1,xhhh.1,xhhh.2.1,xhhh.2.2) (Sum.elim (fun z5=>
 let z5h:=z5.2.2.2.2.2.2.2.2
 let z5hh:=z5h.2.2.2.2.2.2.2.2
 let z5hhh:=z5hh.2.2.2.2.2.2.2.2
 bif (decide ((z5.2.2.2.2.2.2.1.length:Int)≥(8:Int)))then
 k (false,z5.2.2.1,z5.2.2.2.1,z5.2.2.2.2.1,z5.2.2.2.2.2.1,z5.2.2.2.2.2.2.1,z5.2.2.2.2.2.2.2.1,z5h.1,z5h.2.1,z5h.2.2.1,z5h.2.2.2.1,z5hh.2.2.1,z5hh.2.2.2.1,z5hh.2.2.2.2.1,z5hh.2.2.2.2.2.1,z5hh.2.2.2.2.2.2.1,z5hh.2.2.2.2.2.2.2.1,z5hh.2.2.1,z5hh.2.2.2.1,z5hh.2.2.2.2.1,z5hh.2.2.2.2.2.1,z5hh.2.2.2.2.2.2.1,z5hh.2.2.2.2.2.2.2.1,z5hhh.2.2.1,z5hhh.2.2.2)
 else
 if z5hhh.2.2.1.length+[(z5h.2.2.1,z5h.2.2.2.1)].length≤VE.maxLen then
 k (true,z5.2.2.1,z5.2.2.2.1,z5.2.2.2.2.1,z5.2.2.2.2.2.1,z5.2.2.2.2.2.2.1,z5.2.2.2.2.2.2.2.1,z5h.1,z5h.2.1,z5h.2.2.1,z5h.2.2.2.1,z5hh.2.2.1,z5hh.2.2.2.1,z5hh.2.2.2.2.1,z5hh.2.2.2.2.2.1,z5hh.2.2.2.2.2.2.1,z5hh.2.2.2.2.2.2.2.1,z5hh.2.2.1,z5hh.2.2.2.1,z5hh.2.2.2.2.1,z5hh.2.2.2.2.2.1,z5hh.2.2.2.2.2.2.1,z5hh.2.2.2.2.2.2.2.1,(z5hhh.2.2.1++[(z5h.2.2.1,z5h.2.2.2.1)]),z5hhh.2.2.2)
 else none) (fun z6=>
 let z6h:=z6.2.2.2.2.2.2.2.2
 let z6hh:=z6h.2.2.2.2.2.2.2.2
 let z6hhh:=z6hh.2.2.2.2.2.2.2.2
 k (z6.1,z6.2.2.1,z6.2.2.2.1,z6.2.2.2.2.1,z6.2.2.2.2.2.1,z6.2.2.2.2.2.2.1,z6.2.2.2.2.2.2.2.1,z6h.1,z6h.2.1,z6h.2.2.1,z6h.2.2.2.1,z6h.2.2.2.2.1,z6h.2.2.2.2.2.1,z6h.2.2.2.2.2.2.1,z6h.2.2.2.2.2.2.2.1,z6hh.1,z6hh.2.1,z6hh.2.2.1,z6hh.2.2.2.1,z6hh.2.2.2.2.1,z6hh.2.2.2.2.2.1,z6hh.2.2.2.2.2.2.1,z6hh.2.2.2.2.2.2.2.1,z6hhh.1,z6hhh.2)))
instance n54n_jp5000004 (x:q21T):ParC (vdr x):=by unfold vdr;(try dsimp only);infer_instance
def v5v (a0:dTxn)(a1:vad)(k:q50T→Option Res):Option Res:=
 vjy a0 (fun y1=>
 vi3 a0 (fun y2=>
 bif (!y2)then
 k (y1.1,y1.2.1,y1.2.2.1,y1.2.2.2.1,y1.2.2.2.2.1,y1.2.2.2.2.2.1,false,y1.2.2.2.2.2.2.1,y1.2.2.2.2.2.2.2)
 else
 bif (a0.2.1 != (1:Int))then
 k (y1.1,y1.2.1,y1.2.2.1,y1.2.2.2.1,y1.2.2.2.2.1,y1.2.2.2.2.2.1,false,y1.2.2.2.2.2.2.1,y1.2.2.2.2.2.2.2)
 else
 vp8 a1 (fun y3=>
 bif (!y3)then
 k (y1.1,y1.2.1,y1.2.2.1,y1.2.2.2.1,y1.2.2.2.2.1,y1.2.2.2.2.2.1,false,y1.2.2.2.2.2.2.1,y1.2.2.2.2.2.2.2)
 else
 vdr (false,a0.1,a0.2.1,a0.2.2.1,a0.2.2.2.1,a0.2.2.2.2.1,a0.2.2.2.2.2.1,a0.2.2.2.2.2.2.1,a0.2.2.2.2.2.2.2,a1.1,a1.2,0,0,0,0,false,(⟨#[]⟩:ByteArray),y1.1,y1.2.1,y1.2.2.1,y1.2.2.2.1,y1.2.2.2.2.1,y1.2.2.2.2.2.1,([]:List vad),([]:List vaa),y1.2.2.2.2.2.2.1,y1.2.2.2.2.2.2.2) (fun z4=>
 let z4h:=z4.2.2.2.2.2.2.2.2
 let z4hh:=z4h.2.2.2.2.2.2.2.2
 k (z4h.2.2.2.1,z4h.2.2.2.2.1,z4h.2.2.2.2.2.1,z4h.2.2.2.2.2.2.1,z4h.2.2.2.2.2.2.2.1,z4hh.1,z4.1,z4hh.2.2.2.2.2.2.2.1,z4hh.2.2.2.2.2.2.2.2)))))
def vvi:=shut v5v
theorem wgh:vvi=v5v:=val _
instance n54n_p (a0:dTxn)(a1:vad):ParC (vvi a0 a1):=by rw [wgh];unfold v5v;(try dsimp only);infer_instance
def v88 (a0:(List Int))(k:q55T→Option Res):Option Res:=
 vn1 a0 (fun y1=>
 vcu (3:Int) y1.1 y1.2.1 y1.2.2 (fun y2=>
 vxu y2.2.1 y2.2.2.1 y2.2.2.2 (fun y3=>
 voh y3.2.2.2.1 y3.2.2.2.2.1 y3.2.2.2.2.2 (fun y4=>
 let y4h:=y4.2.2.2.2.2.2.2.2
 bif (decide (y2.1>0))then
 vpw y4.2.2.2.2.2.2.1 y4.2.2.2.2.2.2.2.1 y4h.1 (fun y5=>
 k (1,1,2,0,false,(⟨#[]⟩:ByteArray),y3.1,y3.2.1,y3.2.2.1,([]:List vad),y5.2.2.2))
 else
 k (y4.1,y4.2.1,y4.2.2.1,y4.2.2.2.1,y4.2.2.2.2.1,y4.2.2.2.2.2.1,y3.1,y3.2.1,y3.2.2.1,y4h.2.1,y4h.2.2)))))
def v1e:=shut v88
theorem wb7:v1e=v88:=val _
instance n48n_p (a0:(List Int)):ParC (v1e a0):=by rw [wb7];unfold v88;(try dsimp only);infer_instance
def vwx (a0:Int)(a1:(List vaa))(a2:(List vaa))(k:((List vaa)×(List vaa))→Option Res):Option Res:=
 if 0≤a0∧a0≤(a1.length:Int)∧0<a2.length∧a1.length+a2.length≤1073741824 then
 k (a2,(insL a1 a0 a2))
 else none
def v1r:=shut vwx
theorem v68:v1r=vwx:=val _
instance n43n_p (a0:Int)(a1:(List vaa))(a2:(List vaa)):ParC (v1r a0 a1 a2):=by rw [v68];unfold vwx;(try dsimp only);infer_instance
def ven (x:q44T)(k:q44T→Option Res):Option Res:=
 k ((IntKind.wrap .i64 (x.1+1)),x.2.1,x.2.2.1,x.2.2.2.1,x.2.2.2.2)
instance n02n_jp6000001 (x:q44T):ParC (ven x):=by unfold ven;(try dsimp only);infer_instance
def vne (x:q44T)(k:q44T⊕q44T→Option Res):Option Res:=
 bif (decide (x.1<(x.2.2.2.2.length:Int)))then
 if 0≤x.1∧x.1<(x.2.2.2.2.length:Int)then
 bif (vai ((x.2.2.2.2.getD x.1.toNat (Ty.zero tWrite)).1) x.2.1)then
 ven (x.1,x.2.1,x.2.2.1,x.2.2.2.1,x.2.2.2.2) (fun z4=>
 k (.inl (z4.1,z4.2.1,z4.2.2.1,z4.2.2.2.1,z4.2.2.2.2)))
 else
 k (.inr (x.1,x.2.1,x.2.2.1,x.2.2.2.1,x.2.2.2.2))
 else none
 else
 k (.inr (x.1,x.2.1,x.2.2.1,x.2.2.2.1,x.2.2.2.2))
instance n02n_bp0 (x:q44T):ParC (vne x):=by unfold vne;(try dsimp only);infer_instance
def v87 (a0:(List vaa))(a1:vaa)(k:(List vaa)→Option Res):Option Res:=
 if a0.length≤VE.maxLen then
 vak vne Fuel (0,a1.1,a1.2.1,a1.2.2,a0) (fun z1=>
 bif (decide (z1.1<(z1.2.2.2.2.length:Int)))then
 if 0≤z1.1∧z1.1<(z1.2.2.2.2.length:Int)then
 bif (vav ((z1.2.2.2.2.getD z1.1.toNat (Ty.zero tWrite)).1) z1.2.1)then
 if 0≤z1.1∧z1.1<(z1.2.2.2.2.length:Int)then
 k (z1.2.2.2.2.set z1.1.toNat (z1.2.1,(z1.2.2.1,z1.2.2.2.1)))
 else none
 else
 v1r z1.1 z1.2.2.2.2 [(z1.2.1,(z1.2.2.1,z1.2.2.2.1))] (fun y2=>
 k y2.2)
 else none
 else
 v1r z1.1 z1.2.2.2.2 [(z1.2.1,(z1.2.2.1,z1.2.2.2.1))] (fun y3=>
 k y3.2))
 else none
def vv9:=shut v87
theorem wdu:vv9=v87:=val _
instance n02n_p (a0:(List vaa))(a1:vaa):ParC (vv9 a0 a1):=by rw [wdu];unfold v87;(try dsimp only);infer_instance
def vdt (x:q19T)(k:(q20T⊕q19T)→Option Res):Option Res:=
 let xh:=x.2.2.2.2.2.2.2.2
 let xhh:=xh.2.2.2.2.2.2.2.2
 let xhhh:=xhh.2.2.2.2.2.2.2.2
 vv9 x.2.2.2.2.2.2.1 (xh.2.1,(xh.2.2.1,xh.2.2.2.1)) (fun y6=>
 vgp (xhh.2.2.1,(xhh.2.2.2.1,(xhh.2.2.2.2.1,(xhh.2.2.2.2.2.1,(xhhh.2.2.1,(y6,(xhh.2.2.2.2.2.2.1,xhh.2.2.2.2.2.2.2.1))))))) (fun y7=>
 bif (!y7)then
 vmy (x.2.1,(x.2.2.1,(x.2.2.2.1,(x.2.2.2.2.1,(x.2.2.2.2.2.1,(x.2.2.2.2.2.2.1,(x.2.2.2.2.2.2.2.1,xh.1))))))) (fun y8=>
 k (.inr (false,x.2.1,x.2.2.1,x.2.2.2.1,x.2.2.2.2.1,x.2.2.2.2.2.1,x.2.2.2.2.2.2.1,x.2.2.2.2.2.2.2.1,xh.1,xh.2.1,xh.2.2.1,xh.2.2.2.1,y8.1,y8.2.1,y8.2.2.1,y8.2.2.2.1,y8.2.2.2.2.1,y8.2.2.2.2.2.1,xhh.2.2.1,xhh.2.2.2.1,xhh.2.2.2.2.1,xhh.2.2.2.2.2.1,xhh.2.2.2.2.2.2.1,xhh.2.2.2.2.2.2.2.1,y8.2.2.2.2.2.2.1,y8.2.2.2.2.2.2.2,xhhh.2.2.1,y6)))
 else
 k (.inl (true,x.2.1,x.2.2.1,x.2.2.2.1,x.2.2.2.2.1,x.2.2.2.2.2.1,x.2.2.2.2.2.2.1,x.2.2.2.2.2.2.2.1,xh.1,xh.2.1,xh.2.2.1,xh.2.2.2.1,xhh.2.2.1,xhh.2.2.2.1,xhh.2.2.2.2.1,xhh.2.2.2.2.2.1,xhh.2.2.2.2.2.2.1,xhh.2.2.2.2.2.2.2.1,xhh.2.2.1,xhh.2.2.2.1,xhh.2.2.2.2.1,xhh.2.2.2.2.2.1,xhh.2.2.2.2.2.2.1,xhh.2.2.2.2.2.2.2.1,xhhh.2.2.1,y6))))
instance n13n_jp5000004 (x:q19T):ParC (vdt x):=by unfold vdt;(try dsimp only);infer_instance
def v7r (a0:dTxn)(a1:vaa)(k:q50T→Option Res):Option Res:=
 vmy a0 (fun y1=>
 vgp a0 (fun y2=>
 bif (!y2)then
 k (y1.1,y1.2.1,y1.2.2.1,y1.2.2.2.1,y1.2.2.2.2.1,y1.2.2.2.2.2.1,false,y1.2.2.2.2.2.2.1,y1.2.2.2.2.2.2.2)
 else
 bif (a0.2.1 != (1:Int))then
 k (y1.1,y1.2.1,y1.2.2.1,y1.2.2.2.1,y1.2.2.2.2.1,y1.2.2.2.2.2.1,false,y1.2.2.2.2.2.2.1,y1.2.2.2.2.2.2.2)
 else
 vp3 a1 (fun y3=>
 bif (!y3)then
 k (y1.1,y1.2.1,y1.2.2.1,y1.2.2.2.1,y1.2.2.2.2.1,y1.2.2.2.2.2.1,false,y1.2.2.2.2.2.2.1,y1.2.2.2.2.2.2.2)
 else
 vdt (false,a0.1,a0.2.1,a0.2.2.1,a0.2.2.2.1,a0.2.2.2.2.1,a0.2.2.2.2.2.1,a0.2.2.2.2.2.2.1,a0.2.2.2.2.2.2.2,a1.1,a1.2.1,a1.2.2,0,0,0,0,false,(⟨#[]⟩:ByteArray),y1.1,y1.2.1,y1.2.2.1,y1.2.2.2.1,y1.2.2.2.2.1,y1.2.2.2.2.2.1,([]:List vad),([]:List vaa),y1.2.2.2.2.2.2.1,y1.2.2.2.2.2.2.2) (Sum.elim (fun z4=>
 let z4h:=z4.2.2.2.2.2.2.2.2
 let z4hh:=z4h.2.2.2.2.2.2.2.2
 let z4hhh:=z4hh.2.2.2.2.2.2.2.2
 k (z4h.2.2.2.2.1,z4h.2.2.2.2.2.1,z4h.2.2.2.2.2.2.1,z4h.2.2.2.2.2.2.2.1,z4hh.1,z4hh.2.1,z4.1,z4hhh.1,z4hhh.2)) (fun z5=>
 let z5h:=z5.2.2.2.2.2.2.2.2
 let z5hh:=z5h.2.2.2.2.2.2.2.2
 let z5hhh:=z5hh.2.2.2.2.2.2.2.2
 k (z5h.2.2.2.2.1,z5h.2.2.2.2.2.1,z5h.2.2.2.2.2.2.1,z5h.2.2.2.2.2.2.2.1,z5hh.1,z5hh.2.1,z5.1,z5hhh.1,z5hhh.2.1))))))
def vvg:=shut v7r
theorem wdl:vvg=v7r:=val _
instance n13n_p (a0:dTxn)(a1:vaa):ParC (vvg a0 a1):=by rw [wdl];unfold v7r;(try dsimp only);infer_instance
def vdh (x:q19T)(k:(q20T⊕q19T)→Option Res):Option Res:=
 let xh:=x.2.2.2.2.2.2.2.2
 let xhh:=xh.2.2.2.2.2.2.2.2
 let xhhh:=xhh.2.2.2.2.2.2.2.2
 vks x.2.2.2.2.2.2.1 (xh.2.1,(xh.2.2.1,xh.2.2.2.1)) (fun y6=>
 vny y6 (fun y7=>
 bif (!y7)then
 vjy (x.2.1,(x.2.2.1,(x.2.2.2.1,(x.2.2.2.2.1,(x.2.2.2.2.2.1,(x.2.2.2.2.2.2.1,(x.2.2.2.2.2.2.2.1,xh.1))))))) (fun y8=>
 k (.inr (false,x.2.1,x.2.2.1,x.2.2.2.1,x.2.2.2.2.1,x.2.2.2.2.2.1,x.2.2.2.2.2.2.1,x.2.2.2.2.2.2.2.1,xh.1,xh.2.1,xh.2.2.1,xh.2.2.2.1,y8.1,y8.2.1,y8.2.2.1,y8.2.2.2.1,y8.2.2.2.2.1,y8.2.2.2.2.2.1,xhh.2.2.1,xhh.2.2.2.1,xhh.2.2.2.2.1,xhh.2.2.2.2.2.1,xhh.2.2.2.2.2.2.1,xhh.2.2.2.2.2.2.2.1,y8.2.2.2.2.2.2.1,y8.2.2.2.2.2.2.2,xhhh.2.2.1,y6)))
 else
 k (.inl (true,x.2.1,x.2.2.1,x.2.2.2.1,x.2.2.2.2.1,x.2.2.2.2.2.1,x.2.2.2.2.2.2.1,x.2.2.2.2.2.2.2.1,xh.1,xh.2.1,xh.2.2.1,xh.2.2.2.1,xhh.2.2.1,xhh.2.2.2.1,xhh.2.2.2.2.1,xhh.2.2.2.2.2.1,xhh.2.2.2.2.2.2.1,xhh.2.2.2.2.2.2.2.1,xhh.2.2.1,xhh.2.2.2.1,xhh.2.2.2.2.1,xhh.2.2.2.2.2.1,xhh.2.2.2.2.2.2.1,xhh.2.2.2.2.2.2.2.1,xhhh.2.2.1,y6))))
instance n61n_jp5000004 (x:q19T):ParC (vdh x):=by unfold vdh;(try dsimp only);infer_instance
def v77 (a0:dTxn)(a1:vaa)(k:q50T→Option Res):Option Res:=
 vjy a0 (fun y1=>
 vi3 a0 (fun y2=>
 bif (!y2)then
 k (y1.1,y1.2.1,y1.2.2.1,y1.2.2.2.1,y1.2.2.2.2.1,y1.2.2.2.2.2.1,false,y1.2.2.2.2.2.2.1,y1.2.2.2.2.2.2.2)
 else
 bif (a0.2.1 != (1:Int))then
 k (y1.1,y1.2.1,y1.2.2.1,y1.2.2.2.1,y1.2.2.2.2.1,y1.2.2.2.2.2.1,false,y1.2.2.2.2.2.2.1,y1.2.2.2.2.2.2.2)
 else
 vp4 a1 (fun y3=>
 bif (!y3)then
 k (y1.1,y1.2.1,y1.2.2.1,y1.2.2.2.1,y1.2.2.2.2.1,y1.2.2.2.2.2.1,false,y1.2.2.2.2.2.2.1,y1.2.2.2.2.2.2.2)
 else
 vdh (false,a0.1,a0.2.1,a0.2.2.1,a0.2.2.2.1,a0.2.2.2.2.1,a0.2.2.2.2.2.1,a0.2.2.2.2.2.2.1,a0.2.2.2.2.2.2.2,a1.1,a1.2.1,a1.2.2,0,0,0,0,false,(⟨#[]⟩:ByteArray),y1.1,y1.2.1,y1.2.2.1,y1.2.2.2.1,y1.2.2.2.2.1,y1.2.2.2.2.2.1,([]:List vad),([]:List vaa),y1.2.2.2.2.2.2.1,y1.2.2.2.2.2.2.2) (Sum.elim (fun z4=>
 let z4h:=z4.2.2.2.2.2.2.2.2
 let z4hh:=z4h.2.2.2.2.2.2.2.2
 let z4hhh:=z4hh.2.2.2.2.2.2.2.2
 k (z4h.2.2.2.2.1,z4h.2.2.2.2.2.1,z4h.2.2.2.2.2.2.1,z4h.2.2.2.2.2.2.2.1,z4hh.1,z4hh.2.1,z4.1,z4hhh.1,z4hhh.2)) (fun z5=>
 let z5h:=z5.2.2.2.2.2.2.2.2
 let z5hh:=z5h.2.2.2.2.2.2.2.2
 let z5hhh:=z5hh.2.2.2.2.2.2.2.2
 k (z5h.2.2.2.2.1,z5h.2.2.2.2.2.1,z5h.2.2.2.2.2.2.1,z5h.2.2.2.2.2.2.2.1,z5hh.1,z5hh.2.1,z5.1,z5hhh.1,z5hhh.2.1))))))
def vxf:=shut v77
theorem wcf:vxf=v77:=val _
instance n61n_p (a0:dTxn)(a1:vaa):ParC (vxf a0 a1):=by rw [wcf];unfold v77;(try dsimp only);infer_instance
def vdq (x:q14T)(k:q14T→Option Res):Option Res:=
 let xh:=x.2.2.2.2.2.2.2.2
 if 0≤x.2.2.2.1∧x.2.2.2.1<(x.2.2.2.2.1.length:Int)then
 if xh.2.length+[(x.2.2.2.2.1.getD x.2.2.2.1.toNat (Ty.zero tVersion))].length≤VE.maxLen then
 k (x.1,x.2.1,x.2.2.1,(IntKind.wrap .i64 (x.2.2.2.1+(1:Int))),x.2.2.2.2.1,x.2.2.2.2.2.1,x.2.2.2.2.2.2.1,x.2.2.2.2.2.2.2.1,xh.1,(xh.2++[(x.2.2.2.2.1.getD x.2.2.2.1.toNat (Ty.zero tVersion))]))
 else none
 else none
instance n51n_jp6000003 (x:q14T):ParC (vdq x):=by unfold vdq;(try dsimp only);infer_instance
def vm9 (x:q14T)(k:q14T⊕q14T→Option Res):Option Res:=
 let xh:=x.2.2.2.2.2.2.2.2
 let t0:=(x.1,x.2.1,x.2.2.1,x.2.2.2.1,x.2.2.2.2.1,x.2.2.2.2.2.1,x.2.2.2.2.2.2.1,x.2.2.2.2.2.2.2.1,xh.1,xh.2)
 let t1:=(x.2.2.2.2.1.getD x.2.2.2.1.toNat (Ty.zero tVersion))
 bif (decide (x.2.2.2.1<(x.2.2.2.2.1.length:Int)))then
 if 0≤x.2.2.2.1∧x.2.2.2.1<(x.2.2.2.2.1.length:Int)then
 bif (vai (t1.1) x.2.2.2.2.2.1)then
 vdq t0 (fun z3=>
 let z3h:=z3.2.2.2.2.2.2.2.2
 k (.inl (z3.1,z3.2.1,z3.2.2.1,z3.2.2.2.1,z3.2.2.2.2.1,z3.2.2.2.2.2.1,z3.2.2.2.2.2.2.1,z3.2.2.2.2.2.2.2.1,z3h.1,z3h.2)))
 else
 if 0≤x.2.2.2.1∧x.2.2.2.1<(x.2.2.2.2.1.length:Int)then
 bif (vav (t1.1) x.2.2.2.2.2.1)then
 if 0≤x.2.2.2.1∧x.2.2.2.1<(x.2.2.2.2.1.length:Int)then
 bif (decide (t1.2.2.2≤xh.1))then
 vdq t0 (fun z4=>
 let z4h:=z4.2.2.2.2.2.2.2.2
 k (.inl (z4.1,z4.2.1,z4.2.2.1,z4.2.2.2.1,z4.2.2.2.2.1,z4.2.2.2.2.2.1,z4.2.2.2.2.2.2.1,z4.2.2.2.2.2.2.2.1,z4h.1,z4h.2)))
 else
 k (.inr t0)
 else none
 else
 k (.inr t0)
 else none
 else none
 else
 k (.inr t0)
instance n51n_bp2 (x:q14T):ParC (vm9 x):=by unfold vm9;(try dsimp only);infer_instance
def vnp (x:q13T)(k:q13T⊕q13T→Option Res):Option Res:=
 bif (decide (x.2.2.1<(x.1.length:Int)))then
 if 0≤x.2.2.1∧x.2.2.1<(x.1.length:Int)then
 if 0≤x.2.2.1∧x.2.2.1<(x.1.length:Int)then
 if 0≤x.2.2.1∧x.2.2.1<(x.1.length:Int)then
 vak vm9 Fuel (x.1,x.2.1,x.2.2.1,0,x.2.2.2,(rd (Ty.zero tWrite) x.1 x.2.2.1).1,(rd (Ty.zero tWrite) x.1 x.2.2.1).2.1,(rd (Ty.zero tWrite) x.1 x.2.2.1).2.2,x.2.1,([]:List vah)) (fun z2=>
 let z2h:=z2.2.2.2.2.2.2.2.2
 if z2h.2.length+[(z2.2.2.2.2.2.1,(z2.2.2.2.2.2.2.1,(z2.2.2.2.2.2.2.2.1,z2h.1)))].length≤VE.maxLen then
 if 0≤z2.2.2.2.1∧z2.2.2.2.1≤(z2.2.2.2.2.1.length:Int)then
 if(z2h.2++[(z2.2.2.2.2.2.1,(z2.2.2.2.2.2.2.1,(z2.2.2.2.2.2.2.2.1,z2h.1)))]).length+(z2.2.2.2.2.1.drop z2.2.2.2.1.toNat).length≤VE.maxLen then
 k (.inl (z2.1,z2.2.1,(IntKind.wrap .i64 (z2.2.2.1+(1:Int))),((z2h.2++[(z2.2.2.2.2.2.1,(z2.2.2.2.2.2.2.1,(z2.2.2.2.2.2.2.2.1,z2h.1)))])++(z2.2.2.2.2.1.drop z2.2.2.2.1.toNat))))
 else none
 else none
 else none)
 else none
 else none
 else none
 else
 k (.inr (x.1,x.2.1,x.2.2.1,x.2.2.2))
instance n51n_bp0 (x:q13T):ParC (vnp x):=by unfold vnp;(try dsimp only);infer_instance
def v7l (a0:(List vah))(a1:(List vaa))(a2:Int)(k:(List vah)→Option Res):Option Res:=
 if([]:List vah).length+a0.length≤VE.maxLen then
 vak vnp Fuel (a1,a2,0,(([]:List vah)++a0)) (fun z1=>
 k z1.2.2.2)
 else none
def vwy:=shut v7l
theorem wgr:vwy=v7l:=val _
instance n51n_p (a0:(List vah))(a1:(List vaa))(a2:Int):ParC (vwy a0 a1 a2):=by rw [wgr];unfold v7l;(try dsimp only);infer_instance
def vnd (x:q40T)(k:q40T⊕q40T→Option Res):Option Res:=
 vcu (8:Int) x.2.1 x.2.2.1 x.2.2.2.1 (fun y2=>
 bif (decide (x.1<y2.1))then
 vpw y2.2.1 y2.2.2.1 y2.2.2.2 (fun y3=>
 vwy x.2.2.2.2 y3.2.2.2 (IntKind.wrap .i64 (x.1+1)) (fun y4=>
 k (.inl ((IntKind.wrap .i64 (x.1+1)),y3.1,y3.2.1,y3.2.2.1,y4))))
 else
 k (.inr (x.1,y2.2.1,y2.2.2.1,y2.2.2.2,x.2.2.2.2)))
instance n82n_bp0 (x:q40T):ParC (vnd x):=by unfold vnd;(try dsimp only);infer_instance
def v74 (a0:(List Int))(a1:Int)(a2:Int)(k:q3T→Option Res):Option Res:=
 vak vnd Fuel (0,a0,a1,a2,([]:List vah)) (fun z1=>
 k (z1.2.1,z1.2.2.1,z1.2.2.2.1,z1.2.2.2.2))
def vz6:=shut v74
theorem wfw:vz6=v74:=val _
instance n82n_p (a0:(List Int))(a1:Int)(a2:Int):ParC (vz6 a0 a1 a2):=by rw [wfw];unfold v74;(try dsimp only);infer_instance
def v5z (a0:(List Int))(a1:Int)(a2:Int)(k:q3T→Option Res):Option Res:=
 vcu (10:Int) a0 a1 a2 (fun y1=>
 vcu (60:Int) y1.2.1 y1.2.2.1 y1.2.2.2 (fun y2=>
 vz6 y2.2.1 y2.2.2.1 y2.2.2.2 (fun y3=>
 if([]:List vah).length+y3.2.2.2.length≤VE.maxLen then
 bif (decide (((([]:List vah)++y3.2.2.2).length:Int)>(0:Int)))then
 if((([]:List vah)++y3.2.2.2).length:Int)=0 then none else
 bif (y1.1==(0:Int))then
 if 0≤(y2.1.tmod (4:Int))∧(y2.1.tmod (4:Int))<([(0:Int),(9999:Int),(10000:Int),(3:Int)].length:Int)then
 if 0≤(y2.1.tmod ((([]:List vah)++y3.2.2.2).length:Int))∧(y2.1.tmod ((([]:List vah)++y3.2.2.2).length:Int))<((([]:List vah)++y3.2.2.2).length:Int)then
 k (y3.1,y3.2.1,y3.2.2.1,((([]:List vah)++y3.2.2.2).set (y2.1.tmod ((([]:List vah)++y3.2.2.2).length:Int)).toNat (((([]:List vah)++y3.2.2.2).getD (y2.1.tmod ((([]:List vah)++y3.2.2.2).length:Int)).toNat (Ty.zero tVersion)).1,(((([]:List vah)++y3.2.2.2).getD (y2.1.tmod ((([]:List vah)++y3.2.2.2).length:Int)).toNat (Ty.zero tVersion)).2.1,(((([]:List vah)++y3.2.2.2).getD (y2.1.tmod ((([]:List vah)++y3.2.2.2).length:Int)).toNat (Ty.zero tVersion)).2.2.1,([(0:Int),(9999:Int),(10000:Int),(3:Int)].getD (y2.1.tmod (4:Int)).toNat (Ty.zero (.i))))))))
 else none
 else none
 else
 bif (y1.1==(1:Int))then
 if 0≤(y2.1.tmod (3:Int))∧(y2.1.tmod (3:Int))<([(⟨#[]⟩:ByteArray),(⟨#[65]⟩:ByteArray),(⟨#[122]⟩:ByteArray)].length:Int)then
 if 0≤(y2.1.tmod ((([]:List vah)++y3.2.2.2).length:Int))∧(y2.1.tmod ((([]:List vah)++y3.2.2.2).length:Int))<((([]:List vah)++y3.2.2.2).length:Int)then
 k (y3.1,y3.2.1,y3.2.2.1,((([]:List vah)++y3.2.2.2).set (y2.1.tmod ((([]:List vah)++y3.2.2.2).length:Int)).toNat (([(⟨#[]⟩:ByteArray),(⟨#[65]⟩:ByteArray),(⟨#[122]⟩:ByteArray)].getD (y2.1.tmod (3:Int)).toNat (Ty.zero .str)),((([]:List vah)++y3.2.2.2).getD (y2.1.tmod ((([]:List vah)++y3.2.2.2).length:Int)).toNat (Ty.zero tVersion)).2)))
 else none
 else none
 else
 bif (y1.1==(2:Int))then
 if 0≤(y2.1.tmod ((([]:List vah)++y3.2.2.2).length:Int))∧(y2.1.tmod ((([]:List vah)++y3.2.2.2).length:Int))<((([]:List vah)++y3.2.2.2).length:Int)then
 k (y3.1,y3.2.1,y3.2.2.1,((([]:List vah)++y3.2.2.2).set (y2.1.tmod ((([]:List vah)++y3.2.2.2).length:Int)).toNat (((([]:List vah)++y3.2.2.2).getD (y2.1.tmod ((([]:List vah)++y3.2.2.2).length:Int)).toNat (Ty.zero tVersion)).1,(((([]:List vah)++y3.2.2.2).getD (y2.1.tmod ((([]:List vah)++y3.2.2.2).length:Int)).toNat (Ty.zero tVersion)).2.1,(true,((([]:List vah)++y3.2.2.2).getD (y2.1.tmod ((([]:List vah)++y3.2.2.2).length:Int)).toNat (Ty.zero tVersion)).2.2.2)))))
 else none
 else
 bif (y1.1==(3:Int))then
 vxc (13:Int) (97:Int) (fun y4=>
 if 0≤(y2.1.tmod ((([]:List vah)++y3.2.2.2).length:Int))∧(y2.1.tmod ((([]:List vah)++y3.2.2.2).length:Int))<((([]:List vah)++y3.2.2.2).length:Int)then
 k (y3.1,y3.2.1,y3.2.2.1,((([]:List vah)++y3.2.2.2).set (y2.1.tmod ((([]:List vah)++y3.2.2.2).length:Int)).toNat (((([]:List vah)++y3.2.2.2).getD (y2.1.tmod ((([]:List vah)++y3.2.2.2).length:Int)).toNat (Ty.zero tVersion)).1,(y4,((([]:List vah)++y3.2.2.2).getD (y2.1.tmod ((([]:List vah)++y3.2.2.2).length:Int)).toNat (Ty.zero tVersion)).2.2))))
 else none)
 else
 k (y3.1,y3.2.1,y3.2.2.1,(([]:List vah)++y3.2.2.2))
 else
 k (y3.1,y3.2.1,y3.2.2.1,(([]:List vah)++y3.2.2.2))
 else none)))
def v07:=shut v5z
theorem wcm:v07=v5z:=val _
instance n80n_p (a0:(List Int))(a1:Int)(a2:Int):ParC (v07 a0 a1 a2):=by rw [wcm];unfold v5z;(try dsimp only);exact⟨((n64n_p _ _ _ _).p.bind fun y1=>((n64n_p _ _ _ _).p.bind fun y2=>((n82n_p _ _ _).p.bind fun y3=>(vbf (vaj (vbf vax (vaj (vbf (vbf (vag _) vax) vax) (vaj (vbf (vbf (vag _) vax) vax) (vaj (vbf (vag _) vax) (vaj ((n67n_p _ _).p.bind fun y4=>(vbf (vag _) vax)) (vag _)))))) (vag _)) vax))))⟩
def v8y (a0:(List Int))(k:q51T→Option Res):Option Res:=
 vn1 a0 (fun y1=>
 vmu y1.1 y1.2.1 y1.2.2 (fun y2=>
 voh y2.2.1 y2.2.2.1 y2.2.2.2 (fun y3=>
 let y3h:=y3.2.2.2.2.2.2.2.2
 v07 y3.2.2.2.2.2.2.1 y3.2.2.2.2.2.2.2.1 y3h.1 (fun y4=>
 k (y3.1,y3.2.1,y3.2.2.1,y3.2.2.2.1,y3.2.2.2.2.1,y3.2.2.2.2.2.1,y2.1,y3h.2.1,y3h.2.2,y4.2.2.2)))))
def v0d:=shut v8y
theorem wc4:v0d=v8y:=val _
instance n44n_p (a0:(List Int)):ParC (v0d a0):=by rw [wc4];unfold v8y;(try dsimp only);infer_instance
def wcc (a0:vaa)(a1:ByteArray)(k:(Bool×ByteArray)→Option Res):Option Res:=
 k ((vav a0.1 a1),a1)
def vvn:=shut wcc
theorem wda:vvn=wcc:=val _
instance n19n_p (a0:vaa)(a1:ByteArray):ParC (vvn a0 a1):=by rw [wda];unfold wcc;(try dsimp only);infer_instance
def vlc (x:q15T)(k:q15T⊕(q15T⊕q15T)→Option Res):Option Res:=
 bif (decide (x.2.2.2.1<x.2.2.1))then
 if 0≤x.2.2.2.1∧x.2.2.2.1<(x.1.length:Int)then
 vvn (rd (Ty.zero tWrite) x.1 x.2.2.2.1) x.2.2.2.2 (fun y3=>
 bif y3.1 then
 k (.inr (.inl (x.1,x.2.2.2.1,x.2.2.1,x.2.2.2.1,y3.2)))
 else
 k (.inl (x.1,x.2.1,x.2.2.1,(IntKind.wrap .i64 (x.2.2.2.1+1)),y3.2)))
 else none
 else
 k (.inr (.inr (x.1,x.2.1,x.2.2.1,x.2.2.2.1,x.2.2.2.2)))
instance n41n_bp0 (x:q15T):ParC (vlc x):=by unfold vlc;(try dsimp only);infer_instance
def v9n (a0:(List vaa))(a1:ByteArray)(k:(Int×ByteArray)→Option Res):Option Res:=
 vak vlc Fuel (a0,0,(a0.length:Int),0,a1) (Sum.elim (fun z1=>
 k (z1.2.1,z1.2.2.2.2)) (fun z2=>
 k ((-1:Int),z2.2.2.2.2)))
def v10:=shut v9n
theorem wf1:v10=v9n:=val _
instance n41n_p (a0:(List vaa))(a1:ByteArray):ParC (v10 a0 a1):=by rw [wf1];unfold v9n;(try dsimp only);infer_instance
def v9h (a0:dTxn)(a1:ByteArray)(k:Int→Option Res):Option Res:=
 v10 a0.2.2.2.2.2.1 a1 (fun y1=>
 k y1.1)
def v7t:=shut v9h
theorem wev:v7t=v9h:=val _
instance n18n_p (a0:dTxn)(a1:ByteArray):ParC (v7t a0 a1):=by rw [wev];unfold v9h;(try dsimp only);infer_instance
def vk2 (x:q8T)(k:q8T⊕q8T→Option Res):Option Res:=
 let t0:=(x.1,x.2.1,x.2.2.1,x.2.2.2.1,x.2.2.2.2.1,x.2.2.2.2.2.1,(IntKind.wrap .i64 (x.2.2.2.2.2.2+(1:Int))))
 bif (decide (x.2.2.2.2.2.2<x.2.2.2.2.2.1))then
 if 0≤x.2.2.2.2.2.2∧x.2.2.2.2.2.2<(x.2.2.2.2.1.length:Int)then
 bif (vav ((rd (Ty.zero tVersion) x.2.2.2.2.1 x.2.2.2.2.2.2).1) x.2.1)then
 bif (decide ((rd (Ty.zero tVersion) x.2.2.2.2.1 x.2.2.2.2.2.2).2.2.2≤x.2.2.1))then
 bif (decide (x.2.2.2.1<0))then
 k (.inl (x.1,x.2.1,x.2.2.1,x.2.2.2.2.2.2,x.2.2.2.2.1,x.2.2.2.2.2.1,(IntKind.wrap .i64 (x.2.2.2.2.2.2+1))))
 else
 if 0≤x.2.2.2.1∧x.2.2.2.1<(x.1.length:Int)then
 bif (decide ((rd (Ty.zero tVersion) x.2.2.2.2.1 x.2.2.2.2.2.2).2.2.2>(rd (Ty.zero tVersion) x.1 x.2.2.2.1).2.2.2))then
 k (.inl (x.1,x.2.1,x.2.2.1,x.2.2.2.2.2.2,x.2.2.2.2.1,x.2.2.2.2.2.1,(IntKind.wrap .i64 (x.2.2.2.2.2.2+1))))
 else
 k (.inl t0)
 else none
 else
 k (.inl t0)
 else
 k (.inl t0)
 else none
 else
 k (.inr (x.1,x.2.1,x.2.2.1,x.2.2.2.1,x.2.2.2.2.1,x.2.2.2.2.2.1,x.2.2.2.2.2.2))
instance n17n_bp0 (x:q8T):ParC (vk2 x):=by unfold vk2;(try dsimp only);infer_instance
def v7h (a0:(List vah))(a1:ByteArray)(a2:Int)(k:Int→Option Res):Option Res:=
 vak vk2 Fuel (a0,a1,a2,(-1:Int),a0,(a0.length:Int),0) (fun z1=>
 k z1.2.2.2.1)
def vxp:=shut v7h
theorem wfj:vxp=v7h:=val _
instance n17n_p (a0:(List vah))(a1:ByteArray)(a2:Int):ParC (vxp a0 a1 a2):=by rw [wfj];unfold v7h;(try dsimp only);infer_instance
def v9b (a0:(List vah))(a1:ByteArray)(a2:Int)(k:(ByteArray×Bool)→Option Res):Option Res:=
 vxp a0 a1 a2 (fun y1=>
 bif (decide (y1<0))then
 k ((⟨#[]⟩:ByteArray),false)
 else
 if 0≤y1∧y1<(a0.length:Int)then
 bif (rd (Ty.zero tVersion) a0 y1).2.2.1 then
 k ((⟨#[]⟩:ByteArray),false)
 else
 if 0≤y1∧y1<(a0.length:Int)then
 k ((rd (Ty.zero tVersion) a0 y1).2.1,true)
 else none
 else none)
def v2s:=shut v9b
theorem wfd:v2s=v9b:=val _
instance n08n_p (a0:(List vah))(a1:ByteArray)(a2:Int):ParC (v2s a0 a1 a2):=by rw [wfd];unfold v9b;(try dsimp only);infer_instance
def v83 (a0:dTxn)(a1:(List vah))(a2:ByteArray)(k:(ByteArray×Bool)→Option Res):Option Res:=
 v7t a0 a2 (fun y1=>
 bif (decide (y1≥0))then
 if 0≤y1∧y1<(a0.2.2.2.2.2.1.length:Int)then
 bif (rd (Ty.zero tWrite) a0.2.2.2.2.2.1 y1).2.2 then
 k ((⟨#[]⟩:ByteArray),false)
 else
 if 0≤y1∧y1<(a0.2.2.2.2.2.1.length:Int)then
 k ((rd (Ty.zero tWrite) a0.2.2.2.2.2.1 y1).2.1,true)
 else none
 else none
 else
 v2s a1 a2 a0.2.2.1 (fun y2=>
 k (y2.1,y2.2)))
def v2l:=shut v83
theorem wc9:v2l=v83:=val _
instance n01n_p (a0:dTxn)(a1:(List vah))(a2:ByteArray):ParC (v2l a0 a1 a2):=by rw [wc9];unfold v83;(try dsimp only);infer_instance
def vlg (x:q9T)(k:q9T⊕q9T→Option Res):Option Res:=
 let t0:=(IntKind.wrap .i64 (x.2.2.2.2+(1:Int)))
 bif (decide (x.2.2.2.2<(x.1.length:Int)))then
 if 0≤x.2.2.2.2∧x.2.2.2.2<(x.1.length:Int)then
 bif (vav ((rd (Ty.zero tVersion) x.1 x.2.2.2.2).1) x.2.1)then
 if 0≤x.2.2.2.2∧x.2.2.2.2<(x.1.length:Int)then
 bif (decide ((rd (Ty.zero tVersion) x.1 x.2.2.2.2).2.2.2≤x.2.2.1))then
 bif (decide (x.2.2.2.1<0))then
 k (.inl (x.1,x.2.1,x.2.2.1,x.2.2.2.2,t0))
 else
 if 0≤x.2.2.2.2∧x.2.2.2.2<(x.1.length:Int)then
 if 0≤x.2.2.2.1∧x.2.2.2.1<(x.1.length:Int)then
 bif (decide ((rd (Ty.zero tVersion) x.1 x.2.2.2.2).2.2.2>(rd (Ty.zero tVersion) x.1 x.2.2.2.1).2.2.2))then
 k (.inl (x.1,x.2.1,x.2.2.1,x.2.2.2.2,t0))
 else
 k (.inl (x.1,x.2.1,x.2.2.1,x.2.2.2.1,t0))
 else none
 else none
 else
 k (.inl (x.1,x.2.1,x.2.2.1,x.2.2.2.1,t0))
 else none
 else
 k (.inl (x.1,x.2.1,x.2.2.1,x.2.2.2.1,t0))
 else none
 else
 k (.inr (x.1,x.2.1,x.2.2.1,x.2.2.2.1,x.2.2.2.2))
instance n81n_bp0 (x:q9T):ParC (vlg x):=by unfold vlg;(try dsimp only);infer_instance
def v6w (a0:(List vah))(a1:ByteArray)(a2:Int)(k:Int→Option Res):Option Res:=
 vak vlg Fuel (a0,a1,a2,(-1:Int),0) (fun z1=>
 k z1.2.2.2.1)
def vv8:=shut v6w
theorem wbx:vv8=v6w:=val _
instance n81n_p (a0:(List vah))(a1:ByteArray)(a2:Int):ParC (vv8 a0 a1 a2):=by rw [wbx];unfold v6w;(try dsimp only);infer_instance
def v73 (a0:(List vah))(a1:ByteArray)(a2:Int)(k:(ByteArray×Bool)→Option Res):Option Res:=
 vv8 a0 a1 a2 (fun y1=>
 bif (decide (y1<0))then
 k ((⟨#[]⟩:ByteArray),false)
 else
 if 0≤y1∧y1<(a0.length:Int)then
 bif (rd (Ty.zero tVersion) a0 y1).2.2.1 then
 k ((⟨#[]⟩:ByteArray),false)
 else
 if 0≤y1∧y1<(a0.length:Int)then
 k ((rd (Ty.zero tVersion) a0 y1).2.1,true)
 else none
 else none)
def vwu:=shut v73
theorem wfm:vwu=v73:=val _
instance n58n_p (a0:(List vah))(a1:ByteArray)(a2:Int):ParC (vwu a0 a1 a2):=by rw [wfm];unfold v73;(try dsimp only);infer_instance
def vkc (x:q7T)(k:q7T⊕(q7T⊕q7T)→Option Res):Option Res:=
 let xh:=x.2.2.2.2.2.2.2.2
 let t0:=(rd (Ty.zero tWrite) xh.2.2.1 x.2.2.2.2.1)
 bif (decide (x.2.2.2.2.1<(xh.2.2.1.length:Int)))then
 if 0≤x.2.2.2.2.1∧x.2.2.2.2.1<(xh.2.2.1.length:Int)then
 bif (vav (t0.1) x.2.1)then
 if 0≤x.2.2.2.2.1∧x.2.2.2.2.1<(xh.2.2.1.length:Int)then
 bif t0.2.2 then
 k (.inr (.inl (x.1,x.2.1,(⟨#[]⟩:ByteArray),false,x.2.2.2.2.1,x.2.2.2.2.2.1,x.2.2.2.2.2.2.1,x.2.2.2.2.2.2.2.1,xh.1,xh.2.1,xh.2.2.1,xh.2.2.2.1,xh.2.2.2.2)))
 else
 if 0≤x.2.2.2.2.1∧x.2.2.2.2.1<(xh.2.2.1.length:Int)then
 k (.inr (.inl (x.1,x.2.1,t0.2.1,true,x.2.2.2.2.1,x.2.2.2.2.2.1,x.2.2.2.2.2.2.1,x.2.2.2.2.2.2.2.1,xh.1,xh.2.1,xh.2.2.1,xh.2.2.2.1,xh.2.2.2.2)))
 else none
 else none
 else
 k (.inl (x.1,x.2.1,x.2.2.1,x.2.2.2.1,(IntKind.wrap .i64 (x.2.2.2.2.1+1)),x.2.2.2.2.2.1,x.2.2.2.2.2.2.1,x.2.2.2.2.2.2.2.1,xh.1,xh.2.1,xh.2.2.1,xh.2.2.2.1,xh.2.2.2.2))
 else none
 else
 k (.inr (.inr (x.1,x.2.1,x.2.2.1,x.2.2.2.1,x.2.2.2.2.1,x.2.2.2.2.2.1,x.2.2.2.2.2.2.1,x.2.2.2.2.2.2.2.1,xh.1,xh.2.1,xh.2.2.1,xh.2.2.2.1,xh.2.2.2.2)))
instance n50n_bp0 (x:q7T):ParC (vkc x):=by unfold vkc;(try dsimp only);infer_instance
def v9p (a0:dTxn)(a1:(List vah))(a2:ByteArray)(k:(ByteArray×Bool)→Option Res):Option Res:=
 vak vkc Fuel (a1,a2,(⟨#[]⟩:ByteArray),false,0,a0.1,a0.2.1,a0.2.2.1,a0.2.2.2.1,a0.2.2.2.2.1,a0.2.2.2.2.2.1,a0.2.2.2.2.2.2.1,a0.2.2.2.2.2.2.2) (Sum.elim (fun z1=>
 k (z1.2.2.1,z1.2.2.2.1)) (fun z2=>
 vwu z2.1 z2.2.1 z2.2.2.2.2.2.2.2.1 (fun y3=>
 k (y3.1,y3.2))))
def vq3:=shut v9p
theorem wdh:vq3=v9p:=val _
instance n50n_p (a0:dTxn)(a1:(List vah))(a2:ByteArray):ParC (vq3 a0 a1 a2):=by rw [wdh];unfold v9p;(try dsimp only);infer_instance
def vly (x:q10T)(k:q10T⊕(q10T⊕q10T)→Option Res):Option Res:=
 bif (decide (x.2.2.2<(x.1.length:Int)))then
 if 0≤x.2.2.2∧x.2.2.2<(x.1.length:Int)then
 if 0≤x.2.2.2∧x.2.2.2<(x.2.1.length:Int)then
 bif (!(Ty.eqB tWrite (rd (Ty.zero tWrite) x.1 x.2.2.2) (rd (Ty.zero tWrite) x.2.1 x.2.2.2)))then
 k (.inr (.inl (x.1,x.2.1,false,x.2.2.2)))
 else
 k (.inl (x.1,x.2.1,x.2.2.1,(IntKind.wrap .i64 (x.2.2.2+1))))
 else none
 else none
 else
 k (.inr (.inr (x.1,x.2.1,x.2.2.1,x.2.2.2)))
instance n39n_bp0 (x:q10T):ParC (vly x):=by unfold vly;(try dsimp only);infer_instance
def v6p (a0:(List vaa))(a1:(List vaa))(k:Bool→Option Res):Option Res:=
 bif ((a0.length:Int) != (a1.length:Int))then
 k false
 else
 vak vly Fuel (a0,a1,false,0) (Sum.elim (fun z1=>
 k z1.2.2.1) (fun _=>
 k true))
def vsz:=shut v6p
theorem wb0:vsz=v6p:=val _
instance n39n_p (a0:(List vaa))(a1:(List vaa)):ParC (vsz a0 a1):=by rw [wb0];unfold v6p;(try dsimp only);infer_instance
def vlh (x:q28T)(k:q28T⊕(q28T⊕q28T)→Option Res):Option Res:=
 let xh:=x.2.2.2.2.2.2.2.2
 let xhh:=xh.2.2.2.2.2.2.2.2
 bif (decide (x.2.1<(x.2.2.2.2.2.2.1.length:Int)))then
 if 0≤x.2.1∧x.2.1<(x.2.2.2.2.2.2.1.length:Int)then
 if 0≤x.2.1∧x.2.1<(xh.2.2.2.2.2.2.1.length:Int)then
 bif (!(Ty.eqB tRange (rd (Ty.zero tRange) x.2.2.2.2.2.2.1 x.2.1) (rd (Ty.zero tRange) xh.2.2.2.2.2.2.1 x.2.1)))then
 k (.inr (.inl (false,x.2.1,x.2.2.1,x.2.2.2.1,x.2.2.2.2.1,x.2.2.2.2.2.1,x.2.2.2.2.2.2.1,x.2.2.2.2.2.2.2.1,xh.1,xh.2.1,xh.2.2.1,xh.2.2.2.1,xh.2.2.2.2.1,xh.2.2.2.2.2.1,xh.2.2.2.2.2.2.1,xh.2.2.2.2.2.2.2.1,xhh.1,xhh.2)))
 else
 k (.inl (x.1,(IntKind.wrap .i64 (x.2.1+1)),x.2.2.1,x.2.2.2.1,x.2.2.2.2.1,x.2.2.2.2.2.1,x.2.2.2.2.2.2.1,x.2.2.2.2.2.2.2.1,xh.1,xh.2.1,xh.2.2.1,xh.2.2.2.1,xh.2.2.2.2.1,xh.2.2.2.2.2.1,xh.2.2.2.2.2.2.1,xh.2.2.2.2.2.2.2.1,xhh.1,xhh.2))
 else none
 else none
 else
 k (.inr (.inr (x.1,x.2.1,x.2.2.1,x.2.2.2.1,x.2.2.2.2.1,x.2.2.2.2.2.1,x.2.2.2.2.2.2.1,x.2.2.2.2.2.2.2.1,xh.1,xh.2.1,xh.2.2.1,xh.2.2.2.1,xh.2.2.2.2.1,xh.2.2.2.2.2.1,xh.2.2.2.2.2.2.1,xh.2.2.2.2.2.2.2.1,xhh.1,xhh.2)))
instance n38n_bp0 (x:q28T):ParC (vlh x):=by unfold vlh;(try dsimp only);infer_instance
def vdg (x:q23T)(k:q23T→Option Res):Option Res:=
 let xh:=x.2.2.2.2.2.2.2.2
 vak vlh Fuel (x.1,0,x.2.1,x.2.2.1,x.2.2.2.1,x.2.2.2.2.1,x.2.2.2.2.2.1,x.2.2.2.2.2.2.1,x.2.2.2.2.2.2.2.1,xh.1,xh.2.1,xh.2.2.1,xh.2.2.2.1,xh.2.2.2.2.1,xh.2.2.2.2.2.1,xh.2.2.2.2.2.2.1,xh.2.2.2.2.2.2.2.1,xh.2.2.2.2.2.2.2.2) (Sum.elim (fun z3=>
 let z3h:=z3.2.2.2.2.2.2.2.2
 let z3hh:=z3h.2.2.2.2.2.2.2.2
 k (z3.1,z3.2.2.1,z3.2.2.2.1,z3.2.2.2.2.1,z3.2.2.2.2.2.1,z3.2.2.2.2.2.2.1,z3.2.2.2.2.2.2.2.1,z3h.1,z3h.2.1,z3h.2.2.1,z3h.2.2.2.1,z3h.2.2.2.2.1,z3h.2.2.2.2.2.1,z3h.2.2.2.2.2.2.1,z3h.2.2.2.2.2.2.2.1,z3hh.1,z3hh.2)) (fun z4=>
 let z4h:=z4.2.2.2.2.2.2.2.2
 let z4hh:=z4h.2.2.2.2.2.2.2.2
 k (true,z4.2.2.1,z4.2.2.2.1,z4.2.2.2.2.1,z4.2.2.2.2.2.1,z4.2.2.2.2.2.2.1,z4.2.2.2.2.2.2.2.1,z4h.1,z4h.2.1,z4h.2.2.1,z4h.2.2.2.1,z4h.2.2.2.2.1,z4h.2.2.2.2.2.1,z4h.2.2.2.2.2.2.1,z4h.2.2.2.2.2.2.2.1,z4hh.1,z4hh.2)))
instance n38n_jp5000003 (x:q23T):ParC (vdg x):=by unfold vdg;(try dsimp only);infer_instance
def v89 (a0:dTxn)(a1:dTxn)(k:Bool→Option Res):Option Res:=
 bif (a0.1 != a1.1)then
 k false
 else
 bif (a0.2.1 != a1.2.1)then
 k false
 else
 bif (a0.2.2.1 != a1.2.2.1)then
 k false
 else
 bif (a0.2.2.2.1 != a1.2.2.2.1)then
 k false
 else
 bif (!(a0.2.2.2.2.2.2.1==a1.2.2.2.2.2.2.1))then
 k false
 else
 bif (!(vav a0.2.2.2.2.2.2.2 a1.2.2.2.2.2.2.2))then
 k false
 else
 bif ((a0.2.2.2.2.1.length:Int) != (a1.2.2.2.2.1.length:Int))then
 k false
 else
 vsz a0.2.2.2.2.2.1 a1.2.2.2.2.2.1 (fun y1=>
 bif (!y1)then
 k false
 else
 vdg (false,a0.1,a0.2.1,a0.2.2.1,a0.2.2.2.1,a0.2.2.2.2.1,a0.2.2.2.2.2.1,a0.2.2.2.2.2.2.1,a0.2.2.2.2.2.2.2,a1.1,a1.2.1,a1.2.2.1,a1.2.2.2.1,a1.2.2.2.2.1,a1.2.2.2.2.2.1,a1.2.2.2.2.2.2.1,a1.2.2.2.2.2.2.2) (fun z2=>
 k z2.1))
def vg6:=shut v89
theorem wgx:vg6=v89:=val _
instance n38n_p (a0:dTxn)(a1:dTxn):ParC (vg6 a0 a1):=by rw [wgx];unfold v89;(try dsimp only);infer_instance
def v8c (a0:ByteArray)(a1:ByteArray)(k:Bool→Option Res):Option Res:=
 bif (decide ((a0.size:Int)≤(a1.size:Int)))then
 if 0≤(0:Int)∧(0:Int)≤(a0.size:Int)∧(a0.size:Int)≤(a1.size:Int)then
 k (vav (a1.extract (0:Int).toNat (a0.size:Int).toNat) a0)
 else none
 else
 k false
def vs3:=shut v8c
theorem wed:vs3=v8c:=val _
instance n36n_p (a0:ByteArray)(a1:ByteArray):ParC (vs3 a0 a1):=by rw [wed];unfold v8c;(try dsimp only);infer_instance
def v8m (a0:(List Int))(k:Bool→Option Res):Option Res:=
 v1v a0 (fun y1=>
 bif y1 then
 k true
 else
 v0y a0 (fun y2=>
 vrw (y2.1,(y2.2.1,(y2.2.2.1,(y2.2.2.2.1,(y2.2.2.2.2.2.2.1,(y2.2.2.2.2.2.2.2,(y2.2.2.2.2.1,y2.2.2.2.2.2.1))))))) (fun y3=>
 if(⟨#[97,98]⟩:ByteArray).size+y3.1.size≤1099511627776 then
 if((⟨#[97,98]⟩:ByteArray)++y3.1).size+(⟨#[99,100]⟩:ByteArray).size≤1099511627776 then
 vxg (((⟨#[97,98]⟩:ByteArray)++y3.1)++(⟨#[99,100]⟩:ByteArray)) (2:Int) (fun y4=>
 let y4h:=y4.2.2.2.2.2.2.2.2
 v1d a0 (fun y5=>
 vxg y5.1 y5.2 (fun y6=>
 let y6h:=y6.2.2.2.2.2.2.2.2
 v0k y5.1 y5.2 (fun y7=>
 vrw (y6.1,(y6.2.1,(y6.2.2.1,(y6.2.2.2.1,(y6h.1,(y6h.2,(y6.2.2.2.2.1,y6.2.2.2.2.2.1))))))) (fun y8=>
 v2f a0 (fun y9=>
 let y9h:=y9.2.2.2.2.2.2.2.2
 vvy (y9.1,(y9.2.1,(y9.2.2.1,(y9.2.2.2.1,(y9h.1,(y9h.2,(y9.2.2.2.2.1,y9.2.2.2.2.2.1))))))) (y9.2.2.2.2.2.2.1,y9.2.2.2.2.2.2.2.1) (fun y10=>
 let y10h:=y10.2.2.2.2.2.2.2.2
 vvi (y9.1,(y9.2.1,(y9.2.2.1,(y9.2.2.2.1,(y9h.1,(y9h.2,(y9.2.2.2.2.1,y9.2.2.2.2.2.1))))))) (y9.2.2.2.2.2.2.1,y9.2.2.2.2.2.2.2.1) (fun y11=>
 let y11h:=y11.2.2.2.2.2.2.2.2
 v1e a0 (fun y12=>
 let y12h:=y12.2.2.2.2.2.2.2.2
 vvg (y12.1,(y12.2.1,(y12.2.2.1,(y12.2.2.2.1,(y12h.2.1,(y12h.2.2,(y12.2.2.2.2.1,y12.2.2.2.2.2.1))))))) (y12.2.2.2.2.2.2.1,(y12.2.2.2.2.2.2.2.1,y12h.1)) (fun y13=>
 let y13h:=y13.2.2.2.2.2.2.2.2
 vxf (y12.1,(y12.2.1,(y12.2.2.1,(y12.2.2.2.1,(y12h.2.1,(y12h.2.2,(y12.2.2.2.2.1,y12.2.2.2.2.2.1))))))) (y12.2.2.2.2.2.2.1,(y12.2.2.2.2.2.2.2.1,y12h.1)) (fun y14=>
 let y14h:=y14.2.2.2.2.2.2.2.2
 v0d a0 (fun y15=>
 let y15h:=y15.2.2.2.2.2.2.2.2
 v2l (y15.1,(y15.2.1,(y15.2.2.1,(y15.2.2.2.1,(y15.2.2.2.2.2.2.2.1,(y15h.1,(y15.2.2.2.2.1,y15.2.2.2.2.2.1))))))) y15h.2 y15.2.2.2.2.2.2.1 (fun y16=>
 vq3 (y15.1,(y15.2.1,(y15.2.2.1,(y15.2.2.2.1,(y15.2.2.2.2.2.2.2.1,(y15h.1,(y15.2.2.2.2.1,y15.2.2.2.2.2.1))))))) y15h.2 y15.2.2.2.2.2.2.1 (fun y17=>
 vi3 (y2.1,(y2.2.1,(y2.2.2.1,(y2.2.2.2.1,(y2.2.2.2.2.2.2.1,(y2.2.2.2.2.2.2.2,(y2.2.2.2.2.1,y2.2.2.2.2.2.1))))))) (fun y18=>
 bif (y3.2==y18)then
 vgp (y2.1,(y2.2.1,(y2.2.2.1,(y2.2.2.2.1,(y2.2.2.2.2.2.2.1,(y2.2.2.2.2.2.2.2,(y2.2.2.2.2.1,y2.2.2.2.2.2.1))))))) (fun y19=>
 bif (y19==y3.2)then
 bif (!y3.2)then
 bif (y6.2.2.2.2.2.2.2.1==y7.2.2.2.2.2.2.2.1)then
 bif (y6.2.2.2.2.2.2.1==y7.2.2.2.2.2.2.1)then
 bif (!y6.2.2.2.2.2.2.2.1)then
 bif (y10.2.2.2.2.2.2.1==y11.2.2.2.2.2.2.1)then
 vg6 (y10.1,(y10.2.1,(y10.2.2.1,(y10.2.2.2.1,(y10.2.2.2.2.2.2.2.1,(y10h,(y10.2.2.2.2.1,y10.2.2.2.2.2.1))))))) (y11.1,(y11.2.1,(y11.2.2.1,(y11.2.2.2.1,(y11.2.2.2.2.2.2.2.1,(y11h,(y11.2.2.2.2.1,y11.2.2.2.2.2.1))))))) (fun y20=>
 bif y20 then
 bif (y13.2.2.2.2.2.2.1==y14.2.2.2.2.2.2.1)then
 vg6 (y13.1,(y13.2.1,(y13.2.2.1,(y13.2.2.2.1,(y13.2.2.2.2.2.2.2.1,(y13h,(y13.2.2.2.2.1,y13.2.2.2.2.2.1))))))) (y14.1,(y14.2.1,(y14.2.2.1,(y14.2.2.2.1,(y14.2.2.2.2.2.2.2.1,(y14h,(y14.2.2.2.2.1,y14.2.2.2.2.2.1))))))) (fun y21=>
 bif y21 then
 bif (vav y16.1 y17.1)then
 k (y16.2==y17.2)
 else
 k false
 else
 k false)
 else
 k false
 else
 k false)
 else
 k false
 else
 if 0≤y5.2∧y5.2≤(y5.1.size:Int)∧(y5.1.size:Int)≤(y5.1.size:Int)then
 vs3 y8.1 (y5.1.extract y5.2.toNat (y5.1.size:Int).toNat) (fun y22=>
 bif y22 then
 bif (y10.2.2.2.2.2.2.1==y11.2.2.2.2.2.2.1)then
 vg6 (y10.1,(y10.2.1,(y10.2.2.1,(y10.2.2.2.1,(y10.2.2.2.2.2.2.2.1,(y10h,(y10.2.2.2.2.1,y10.2.2.2.2.2.1))))))) (y11.1,(y11.2.1,(y11.2.2.1,(y11.2.2.2.1,(y11.2.2.2.2.2.2.2.1,(y11h,(y11.2.2.2.2.1,y11.2.2.2.2.2.1))))))) (fun y23=>
 bif y23 then
 bif (y13.2.2.2.2.2.2.1==y14.2.2.2.2.2.2.1)then
 vg6 (y13.1,(y13.2.1,(y13.2.2.1,(y13.2.2.2.1,(y13.2.2.2.2.2.2.2.1,(y13h,(y13.2.2.2.2.1,y13.2.2.2.2.2.1))))))) (y14.1,(y14.2.1,(y14.2.2.1,(y14.2.2.2.1,(y14.2.2.2.2.2.2.2.1,(y14h,(y14.2.2.2.2.1,y14.2.2.2.2.2.1))))))) (fun y24=>
 bif y24 then
 bif (vav y16.1 y17.1)then
 k (y16.2==y17.2)
 else
 k false
 else
 k false)
 else
 k false
 else
 k false)
 else
 k false
 else
 k false)
 else none
 else
 k false
 else
 k false
 else
 bif y4.2.2.2.2.2.2.2.1 then
 vg6 (y4.1,(y4.2.1,(y4.2.2.1,(y4.2.2.2.1,(y4h.1,(y4h.2,(y4.2.2.2.2.1,y4.2.2.2.2.2.1))))))) (y2.1,(y2.2.1,(y2.2.2.1,(y2.2.2.2.1,(y2.2.2.2.2.2.2.1,(y2.2.2.2.2.2.2.2,(y2.2.2.2.2.1,y2.2.2.2.2.2.1))))))) (fun y25=>
 bif y25 then
 bif (y4.2.2.2.2.2.2.1==(IntKind.wrap .i64 ((2:Int)+(y3.1.size:Int))))then
 bif (y6.2.2.2.2.2.2.2.1==y7.2.2.2.2.2.2.2.1)then
 bif (y6.2.2.2.2.2.2.1==y7.2.2.2.2.2.2.1)then
 bif (!y6.2.2.2.2.2.2.2.1)then
 bif (y10.2.2.2.2.2.2.1==y11.2.2.2.2.2.2.1)then
 vg6 (y10.1,(y10.2.1,(y10.2.2.1,(y10.2.2.2.1,(y10.2.2.2.2.2.2.2.1,(y10h,(y10.2.2.2.2.1,y10.2.2.2.2.2.1))))))) (y11.1,(y11.2.1,(y11.2.2.1,(y11.2.2.2.1,(y11.2.2.2.2.2.2.2.1,(y11h,(y11.2.2.2.2.1,y11.2.2.2.2.2.1))))))) (fun y26=>
 bif y26 then
 bif (y13.2.2.2.2.2.2.1==y14.2.2.2.2.2.2.1)then
 vg6 (y13.1,(y13.2.1,(y13.2.2.1,(y13.2.2.2.1,(y13.2.2.2.2.2.2.2.1,(y13h,(y13.2.2.2.2.1,y13.2.2.2.2.2.1))))))) (y14.1,(y14.2.1,(y14.2.2.1,(y14.2.2.2.1,(y14.2.2.2.2.2.2.2.1,(y14h,(y14.2.2.2.2.1,y14.2.2.2.2.2.1))))))) (fun y27=>
 bif y27 then
 bif (vav y16.1 y17.1)then
 k (y16.2==y17.2)
 else
 k false
 else
 k false)
 else
 k false
 else
 k false)
 else
 k false
 else
 if 0≤y5.2∧y5.2≤(y5.1.size:Int)∧(y5.1.size:Int)≤(y5.1.size:Int)then
 vs3 y8.1 (y5.1.extract y5.2.toNat (y5.1.size:Int).toNat) (fun y28=>
 bif y28 then
 bif (y10.2.2.2.2.2.2.1==y11.2.2.2.2.2.2.1)then
 vg6 (y10.1,(y10.2.1,(y10.2.2.1,(y10.2.2.2.1,(y10.2.2.2.2.2.2.2.1,(y10h,(y10.2.2.2.2.1,y10.2.2.2.2.2.1))))))) (y11.1,(y11.2.1,(y11.2.2.1,(y11.2.2.2.1,(y11.2.2.2.2.2.2.2.1,(y11h,(y11.2.2.2.2.1,y11.2.2.2.2.2.1))))))) (fun y29=>
 bif y29 then
 bif (y13.2.2.2.2.2.2.1==y14.2.2.2.2.2.2.1)then
 vg6 (y13.1,(y13.2.1,(y13.2.2.1,(y13.2.2.2.1,(y13.2.2.2.2.2.2.2.1,(y13h,(y13.2.2.2.2.1,y13.2.2.2.2.2.1))))))) (y14.1,(y14.2.1,(y14.2.2.1,(y14.2.2.2.1,(y14.2.2.2.2.2.2.2.1,(y14h,(y14.2.2.2.2.1,y14.2.2.2.2.2.1))))))) (fun y30=>
 bif y30 then
 bif (vav y16.1 y17.1)then
 k (y16.2==y17.2)
 else
 k false
 else
 k false)
 else
 k false
 else
 k false)
 else
 k false
 else
 k false)
 else none
 else
 k false
 else
 k false
 else
 k false
 else
 k false)
 else
 k false
 else
 k false)
 else
 k false)))))))))))))))
 else none
 else none)))
def v6d:=shut v8m
theorem wf8:v6d=v8m:=val _
instance n35n_p (a0:(List Int)):ParC (v6d a0):=by rw [wf8];unfold v8m;(try dsimp only);exact⟨((n37n_p _).p.bind fun y1=>(vaj (vag _) ((n47n_p _).p.bind fun y2=>((n11n_p _).p.bind fun y3=>(vbf (vbf ((n06n_p _ _).p.bind fun y4=>((n46n_p _).p.bind fun y5=>((n06n_p _ _).p.bind fun y6=>((n56n_p _ _).p.bind fun y7=>((n11n_p _).p.bind fun y8=>((n45n_p _).p.bind fun y9=>((n04n_p _ _).p.bind fun y10=>((n54n_p _ _).p.bind fun y11=>((n48n_p _).p.bind fun y12=>((n13n_p _ _).p.bind fun y13=>((n61n_p _ _).p.bind fun y14=>((n44n_p _).p.bind fun y15=>((n01n_p _ _ _).p.bind fun y16=>((n50n_p _ _ _).p.bind fun y17=>((n59n_p _).p.bind fun y18=>(vaj ((n10n_p _).p.bind fun y19=>(vaj (vaj (vaj (vaj (vaj (vaj ((n38n_p _ _).p.bind fun y20=>(vaj (vaj ((n38n_p _ _).p.bind fun y21=>(vaj (vaj (vag _) (vag _)) (vag _))) (vag _)) (vag _))) (vag _)) (vbf ((n36n_p _ _).p.bind fun y22=>(vaj (vaj ((n38n_p _ _).p.bind fun y23=>(vaj (vaj ((n38n_p _ _).p.bind fun y24=>(vaj (vaj (vag _) (vag _)) (vag _))) (vag _)) (vag _))) (vag _)) (vag _))) vax)) (vag _)) (vag _)) (vaj ((n38n_p _ _).p.bind fun y25=>(vaj (vaj (vaj (vaj (vaj (vaj ((n38n_p _ _).p.bind fun y26=>(vaj (vaj ((n38n_p _ _).p.bind fun y27=>(vaj (vaj (vag _) (vag _)) (vag _))) (vag _)) (vag _))) (vag _)) (vbf ((n36n_p _ _).p.bind fun y28=>(vaj (vaj ((n38n_p _ _).p.bind fun y29=>(vaj (vaj ((n38n_p _ _).p.bind fun y30=>(vaj (vaj (vag _) (vag _)) (vag _))) (vag _)) (vag _))) (vag _)) (vag _))) vax)) (vag _)) (vag _)) (vag _)) (vag _))) (vag _))) (vag _))) (vag _))))))))))))))))) vax) vax)))))⟩
def wmo (args:List AV)(st:St)(k:K1):Option Res:=
 vao [.lst (.int .u8)] [] args st (fun p q=>v1v p.1 (fun(y:Bool)=>k (.bool y) []))
 (none)
def wk5 (args:List AV)(st:St)(k:K1):Option Res:=
 vao [.lst (.int .u8)] [] args st (fun p q=>vn1 p.1 (fun(y:((List Int)×Int×Int))=>k (.bp 0 0) [.box [.lst (.int .u8) y.1,.i y.2.1,.i y.2.2]]))
 (none)
def wl9 (args:List AV)(st:St)(k:K1):Option Res:=
 vao [.bp 0 0] [.box [.lst (.int .u8),.i,.i]] args st (fun p q=>vmx q.1.1 q.1.2.1 q.1.2.2.1 (fun(y:(Int×(List Int)×Int×Int))=>k (.i y.1) [.box [.lst (.int .u8) y.2.1,.i y.2.2.1,.i y.2.2.2]]))
 (none)
def wme (args:List AV)(st:St)(k:K1):Option Res:=
 vao [.bp 0 0,.i] [.box [.lst (.int .u8),.i,.i]] args st (fun p q=>vcu p.2.1 q.1.1 q.1.2.1 q.1.2.2.1 (fun(y:(Int×(List Int)×Int×Int))=>k (.i y.1) [.box [.lst (.int .u8) y.2.1,.i y.2.2.1,.i y.2.2.2]]))
 (none)
def wmv (args:List AV)(st:St)(k:K1):Option Res:=
 vao [.bp 0 0,.lst .str] [.box [.lst (.int .u8),.i,.i]] args st (fun p q=>vq5 p.2.1 q.1.1 q.1.2.1 q.1.2.2.1 (fun(y:q30T)=>k (.str y.1) [.box [.lst (.int .u8) y.2.1,.i y.2.2.1,.i y.2.2.2]]))
 (none)
def wmh (args:List AV)(st:St)(k:K1):Option Res:=
 vao [.bp 0 0] [.box [.lst (.int .u8),.i,.i]] args st (fun p q=>vmu q.1.1 q.1.2.1 q.1.2.2.1 (fun(y:q30T)=>k (.str y.1) [.box [.lst (.int .u8) y.2.1,.i y.2.2.1,.i y.2.2.2]]))
 (none)
def wl8 (args:List AV)(st:St)(k:K1):Option Res:=
 vao [.bp 0 0,.i] [.box [.lst (.int .u8),.i,.i]] args st (fun p q=>vnz p.2.1 q.1.1 q.1.2.1 q.1.2.2.1 (fun(y:(Bool×(List Int)×Int×Int))=>k (.bool y.1) [.box [.lst (.int .u8) y.2.1,.i y.2.2.1,.i y.2.2.2]]))
 (none)
def wkv (args:List AV)(st:St)(k:K1):Option Res:=
 vao [.bp 0 0] [.box [.lst (.int .u8),.i,.i]] args st (fun p q=>vxl q.1.1 q.1.2.1 q.1.2.2.1 (fun(y:q31T)=>k (.agg [.str y.1,.str y.2.1]) [.box [.lst (.int .u8) y.2.2.1,.i y.2.2.2.1,.i y.2.2.2.2]]))
 (none)
def wlk (args:List AV)(st:St)(k:K1):Option Res:=
 vao [.bp 0 0] [.box [.lst (.int .u8),.i,.i]] args st (fun p q=>vv1 q.1.1 q.1.2.1 q.1.2.2.1 (fun(y:q2T)=>k (.own 1) [.box [.lst (.int .u8) y.1,.i y.2.1,.i y.2.2.1],.arr tRange y.2.2.2]))
 (none)
def wlp (args:List AV)(st:St)(k:K1):Option Res:=
 vao [.bp 0 0] [.box [.lst (.int .u8),.i,.i]] args st (fun p q=>vr0 q.1.1 q.1.2.1 q.1.2.2.1 (fun(y:q32T)=>k (.agg [.str y.1,.str y.2.1,.bool y.2.2.1]) [.box [.lst (.int .u8) y.2.2.2.1,.i y.2.2.2.2.1,.i y.2.2.2.2.2]]))
 (none)
def wk9 (args:List AV)(st:St)(k:K1):Option Res:=
 vao [.lst tWrite,.agg [.str,.str,.bool]] [] args st (fun p q=>vks p.1 (p.2.1.1,(p.2.1.2.1,p.2.1.2.2.1)) (fun(y:(List vaa))=>k (.own 0) [.arr tWrite y]))
 (none)
def wm8 (args:List AV)(st:St)(k:K1):Option Res:=
 vao [.bp 0 0] [.box [.lst (.int .u8),.i,.i]] args st (fun p q=>vpw q.1.1 q.1.2.1 q.1.2.2.1 (fun(y:q4T)=>k (.own 1) [.box [.lst (.int .u8) y.1,.i y.2.1,.i y.2.2.1],.arr tWrite y.2.2.2]))
 (none)
def wle (args:List AV)(st:St)(k:K1):Option Res:=
 vao [.bp 0 0] [.box [.lst (.int .u8),.i,.i]] args st (fun p q=>v0e q.1.1 q.1.2.1 q.1.2.2.1 (fun(y:q48T)=>k (.agg [.i y.1,.i y.2.1,.i y.2.2.1,.i y.2.2.2.1,.own 1,.own 2,.bool y.2.2.2.2.1,.str y.2.2.2.2.2.1]) [.box [.lst (.int .u8) y.2.2.2.2.2.2.1,.i y.2.2.2.2.2.2.2.1,.i y.2.2.2.2.2.2.2.2.1],.arr tRange y.2.2.2.2.2.2.2.2.2.1,.arr tWrite y.2.2.2.2.2.2.2.2.2.2]))
 (none)
def wlv (args:List AV)(st:St)(k:K1):Option Res:=
 vao [.agg [.i,.i,.i,.i,.lst tRange,.lst tWrite,.bool,.str]] [] args st (fun p q=>vjy (p.1.1,(p.1.2.1,(p.1.2.2.1,(p.1.2.2.2.1,(p.1.2.2.2.2.1,(p.1.2.2.2.2.2.1,(p.1.2.2.2.2.2.2.1,p.1.2.2.2.2.2.2.2.1))))))) (fun(y:q49T)=>k (.agg [.i y.1,.i y.2.1,.i y.2.2.1,.i y.2.2.2.1,.own 0,.own 1,.bool y.2.2.2.2.1,.str y.2.2.2.2.2.1]) [.arr tRange y.2.2.2.2.2.2.1,.arr tWrite y.2.2.2.2.2.2.2]))
 (none)
def wk7 (args:List AV)(st:St)(k:K1):Option Res:=
 vao [.i,.int .u8] [] args st (fun p q=>vxc p.1 p.2.1 (fun(y:ByteArray)=>k (.str y) []))
 (none)
def wkz (args:List AV)(st:St)(k:K1):Option Res:=
 vao [.bp 0 0] [.box [.lst (.int .u8),.i,.i]] args st (fun p q=>vxu q.1.1 q.1.2.1 q.1.2.2.1 (fun(y:q32T)=>k (.agg [.str y.1,.str y.2.1,.bool y.2.2.1]) [.box [.lst (.int .u8) y.2.2.2.1,.i y.2.2.2.2.1,.i y.2.2.2.2.2]]))
 (none)
def wmf (args:List AV)(st:St)(k:K1):Option Res:=
 vao [.bp 0 0] [.box [.lst (.int .u8),.i,.i]] args st (fun p q=>voh q.1.1 q.1.2.1 q.1.2.2.1 (fun(y:q48T)=>k (.agg [.i y.1,.i y.2.1,.i y.2.2.1,.i y.2.2.2.1,.own 1,.own 2,.bool y.2.2.2.2.1,.str y.2.2.2.2.2.1]) [.box [.lst (.int .u8) y.2.2.2.2.2.2.1,.i y.2.2.2.2.2.2.2.1,.i y.2.2.2.2.2.2.2.2.1],.arr tRange y.2.2.2.2.2.2.2.2.2.1,.arr tWrite y.2.2.2.2.2.2.2.2.2.2]))
 (none)
def wln (args:List AV)(st:St)(k:K1):Option Res:=
 vao [.lst (.int .u8)] [] args st (fun p q=>v0y p.1 (fun(y:q49T)=>k (.agg [.i y.1,.i y.2.1,.i y.2.2.1,.i y.2.2.2.1,.own 0,.own 1,.bool y.2.2.2.2.1,.str y.2.2.2.2.2.1]) [.arr tRange y.2.2.2.2.2.2.1,.arr tWrite y.2.2.2.2.2.2.2]))
 (none)
def wly (args:List AV)(st:St)(k:K1):Option Res:=
 vao [.i,.i,.i] [] args st (fun p q=>vfp p.1 p.2.1 p.2.2.1 (fun(y:Bool)=>k (.bool y) []))
 (none)
def wnf (args:List AV)(st:St)(k:K1):Option Res:=
 vao [.str] [] args st (fun p q=>vmt p.1 (fun(y:Bool)=>k (.bool y) []))
 (none)
def wl7 (args:List AV)(st:St)(k:K1):Option Res:=
 vao [.agg [.str,.str]] [] args st (fun p q=>vqe (p.1.1,p.1.2.1) (fun(y:Bool)=>k (.bool y) []))
 (none)
def wmy (args:List AV)(st:St)(k:K1):Option Res:=
 vao [.agg [.str,.str,.bool]] [] args st (fun p q=>vp3 (p.1.1,(p.1.2.1,p.1.2.2.1)) (fun(y:Bool)=>k (.bool y) []))
 (none)
def wm1 (args:List AV)(st:St)(k:K1):Option Res:=
 vao [.lst tWrite] [] args st (fun p q=>vs8 p.1 (fun(y:Bool)=>k (.bool y) []))
 (none)
def wm7 (args:List AV)(st:St)(k:K1):Option Res:=
 vao [.agg [.i,.i,.i,.i,.lst tRange,.lst tWrite,.bool,.str]] [] args st (fun p q=>vgp (p.1.1,(p.1.2.1,(p.1.2.2.1,(p.1.2.2.2.1,(p.1.2.2.2.2.1,(p.1.2.2.2.2.2.1,(p.1.2.2.2.2.2.2.1,p.1.2.2.2.2.2.2.2.1))))))) (fun(y:Bool)=>k (.bool y) []))
 (none)
def wm9 (args:List AV)(st:St)(k:K1):Option Res:=
 vao [.i] [] args st (fun p q=>vj9 p.1 (fun(y:(ByteArray×Bool))=>k (.tup [.str y.1,.bool y.2]) []))
 (none)
def v09 (args:List AV)(st:St)(k:K1):Option Res:=
 vao [.bp 0 0,.lst (.i)] [.box [.nilS]] args st (fun p q=>vsm p.2.1 (fun(y:(List Int))=>k (.tup []) [.box [.own 1],.arr (.int .u8) y]))
 (vao [.bp 0 0,.lst (.i)] [.box [.own 1],.arr (.int .u8)] args st (fun p q=>vw8 p.2.1 q.2.1 (Sum.elim (fun(y:(List Int))=>k (.tup []) [.box [.own 1],.arr (.int .u8) y]) (fun(y:(List Int))=>k (.tup []) [.box [.own 2],.gone,.arr (.int .u8) y])))
 (none))
def wk4 (args:List AV)(st:St)(k:K1):Option Res:=
 vao [.str] [] args st (fun p q=>vxt p.1 (fun(y:(ByteArray×Bool))=>k (.tup [.str y.1,.bool y.2]) []))
 (none)
def wlx (args:List AV)(st:St)(k:K1):Option Res:=
 vao [.bp 0 0,.lst .str] [.box [.own 1],.arr (.int .u8)] args st (fun p q=>vir p.2.1 q.2.1 (Sum.elim (fun(y:(List Int))=>k (.tup []) [.box [.own 1],.arr (.int .u8) y]) (fun(y:(List Int))=>k (.tup []) [.box [.own 2],.gone,.arr (.int .u8) y])))
 (none)
def wmx (args:List AV)(st:St)(k:K1):Option Res:=
 vao [.bp 0 0,.bool] [.box [.own 1],.arr (.int .u8)] args st (fun p q=>vjx p.2.1 q.2.1 (fun(y:(List Int))=>k (.tup []) [.box [.own 2],.gone,.arr (.int .u8) y]))
 (none)
def wlw (args:List AV)(st:St)(k:K1):Option Res:=
 vao [.agg [.i,.i,.i,.i,.lst tRange,.lst tWrite,.bool,.str]] [] args st (fun p q=>vrw (p.1.1,(p.1.2.1,(p.1.2.2.1,(p.1.2.2.2.1,(p.1.2.2.2.2.1,(p.1.2.2.2.2.2.1,(p.1.2.2.2.2.2.2.1,p.1.2.2.2.2.2.2.2.1))))))) (fun(y:(ByteArray×Bool))=>k (.tup [.str y.1,.bool y.2]) []))
 (none)
def wm6 (args:List AV)(st:St)(k:K1):Option Res:=
 vao [.str,.i] [] args st (fun p q=>vxe p.1 p.2.1 (fun(y:(Int×Int×Bool))=>k (.tup [.i y.1,.i y.2.1,.bool y.2.2]) []))
 (none)
def wkx (args:List AV)(st:St)(k:K1):Option Res:=
 vao [.bp 0 0] [.box [.str,.i,.bool]] args st (fun p q=>vmv q.1.1 q.1.2.1 q.1.2.2.1 (fun(y:(Int×ByteArray×Int×Bool))=>k (.i y.1) [.box [.str y.2.1,.i y.2.2.1,.bool y.2.2.2]]))
 (none)
def wlz (args:List AV)(st:St)(k:K1):Option Res:=
 vao [.str,.i] [] args st (fun p q=>v0r p.1 p.2.1 (fun(y:(ByteArray×Int×Bool))=>k (.tup [.str y.1,.i y.2.1,.bool y.2.2]) []))
 (none)
def wku (args:List AV)(st:St)(k:K1):Option Res:=
 vao [.bp 0 0] [.box [.str,.i,.bool]] args st (fun p q=>vim q.1.1 q.1.2.1 q.1.2.2.1 (fun(y:q33T)=>k (.str y.1) [.box [.str y.2.1,.i y.2.2.1,.bool y.2.2.2]]))
 (none)
def v2v (args:List AV)(st:St)(k:K1):Option Res:=
 vao [.bp 0 0,.bp 1 0] [.box [.i,.i,.i,.i,.nilS,.nilS,.bool,.str],.box [.bp 2 0],.box [.str,.i,.bool]] args st (fun p q=>wd5 q.1.1 q.1.2.1 q.1.2.2.1 q.1.2.2.2.1 q.1.2.2.2.2.2.2.1 q.1.2.2.2.2.2.2.2.1 q.2.2.1.1 q.2.2.1.2.1 q.2.2.1.2.2.1 (fun(y:q57T)=>k (.tup []) [.box [.i y.1,.i y.2.1,.i y.2.2.1,.i y.2.2.2.1,.own 3,.nilS,.bool y.2.2.2.2.1,.str y.2.2.2.2.2.1],.box [.bp 2 0],.box [.str y.2.2.2.2.2.2.1,.i y.2.2.2.2.2.2.2.1,.bool y.2.2.2.2.2.2.2.2.1],.arr tRange y.2.2.2.2.2.2.2.2.2]))
 (vao [.bp 0 0,.bp 1 0] [.box [.i,.i,.i,.i,.own 2,.nilS,.bool,.str],.box [.bp 3 0],.arr tRange,.box [.str,.i,.bool]] args st (fun p q=>v8h q.1.1 q.1.2.1 q.1.2.2.1 q.1.2.2.2.1 q.1.2.2.2.2.2.2.1 q.1.2.2.2.2.2.2.2.1 q.2.2.1 q.2.2.2.1.1 q.2.2.2.1.2.1 q.2.2.2.1.2.2.1 (fun(y:q57T)=>k (.tup []) [.box [.i y.1,.i y.2.1,.i y.2.2.1,.i y.2.2.2.1,.own 4,.nilS,.bool y.2.2.2.2.1,.str y.2.2.2.2.2.1],.box [.bp 3 0],.gone,.box [.str y.2.2.2.2.2.2.1,.i y.2.2.2.2.2.2.2.1,.bool y.2.2.2.2.2.2.2.2.1],.arr tRange y.2.2.2.2.2.2.2.2.2]))
 (none))
def wlg (args:List AV)(st:St)(k:K1):Option Res:=
 vao [.bp 0 0] [.box [.str,.i,.bool]] args st (fun p q=>vsi q.1.1 q.1.2.1 q.1.2.2.1 (fun(y:q18T)=>k (.bool y.1) [.box [.str y.2.1,.i y.2.2.1,.bool y.2.2.2]]))
 (none)
def v2m (args:List AV)(st:St)(k:K1):Option Res:=
 vao [.bp 0 0,.bp 1 0] [.box [.bp 2 0],.box [.i,.i,.i,.i,.own 3,.nilS,.bool,.str],.box [.str,.i,.bool],.arr tRange] args st (fun p q=>wgg q.2.1.1 q.2.1.2.1 q.2.1.2.2.1 q.2.1.2.2.2.1 q.2.1.2.2.2.2.2.2.1 q.2.1.2.2.2.2.2.2.2.1 q.2.2.1.1 q.2.2.1.2.1 q.2.2.1.2.2.1 q.2.2.2.1 (fun(y:q56T)=>k (.tup []) [.box [.bp 2 0],.box [.i y.1,.i y.2.1,.i y.2.2.1,.i y.2.2.2.1,.own 3,.own 4,.bool y.2.2.2.2.1,.str y.2.2.2.2.2.1],.box [.str y.2.2.2.2.2.2.1,.i y.2.2.2.2.2.2.2.1,.bool y.2.2.2.2.2.2.2.2.1],.arr tRange y.2.2.2.2.2.2.2.2.2.1,.arr tWrite y.2.2.2.2.2.2.2.2.2.2]))
 (vao [.bp 0 0,.bp 1 0] [.box [.bp 2 0],.box [.i,.i,.i,.i,.own 3,.own 4,.bool,.str],.box [.str,.i,.bool],.arr tRange,.arr tWrite] args st (fun p q=>v54 q.2.1.1 q.2.1.2.1 q.2.1.2.2.1 q.2.1.2.2.2.1 q.2.1.2.2.2.2.2.2.1 q.2.1.2.2.2.2.2.2.2.1 q.2.2.1.1 q.2.2.1.2.1 q.2.2.1.2.2.1 q.2.2.2.1 q.2.2.2.2.1 (fun(y:q56T)=>k (.tup []) [.box [.bp 2 0],.box [.i y.1,.i y.2.1,.i y.2.2.1,.i y.2.2.2.1,.own 3,.own 5,.bool y.2.2.2.2.1,.str y.2.2.2.2.2.1],.box [.str y.2.2.2.2.2.2.1,.i y.2.2.2.2.2.2.2.1,.bool y.2.2.2.2.2.2.2.2.1],.arr tRange y.2.2.2.2.2.2.2.2.2.1,.gone,.arr tWrite y.2.2.2.2.2.2.2.2.2.2]))
 (none))
def vch (args:List AV)(st:St)(k:K1):Option Res:=
 vao [.bp 0 0,.fn 169 [.bp 1 0,.bp 2 0]] [.box [.str,.i,.bool],.box [.i,.i,.i,.i,.nilS,.nilS,.bool,.str],.box [.bp 0 0]] args st (fun p q=>v16 q.1.1 q.1.2.1 q.1.2.2.1 q.2.1.1 q.2.1.2.1 q.2.1.2.2.1 q.2.1.2.2.2.1 q.2.1.2.2.2.2.2.2.1 q.2.1.2.2.2.2.2.2.2.1 (fun(y:q35T)=>k (.tup []) [.box [.str y.1,.i y.2.1,.bool y.2.2.1],.box [.i y.2.2.2.1,.i y.2.2.2.2.1,.i y.2.2.2.2.2.1,.i y.2.2.2.2.2.2.1,.own 3,.nilS,.bool y.2.2.2.2.2.2.2.1,.str y.2.2.2.2.2.2.2.2.1],.box [.bp 0 0],.arr tRange y.2.2.2.2.2.2.2.2.2]))
 (vao [.bp 0 0,.fn 171 [.bp 1 0,.bp 2 0]] [.box [.str,.i,.bool],.box [.bp 0 0],.box [.i,.i,.i,.i,.own 3,.nilS,.bool,.str],.arr tRange] args st (fun p q=>v02 q.1.1 q.1.2.1 q.1.2.2.1 q.2.2.1.1 q.2.2.1.2.1 q.2.2.1.2.2.1 q.2.2.1.2.2.2.1 q.2.2.1.2.2.2.2.2.2.1 q.2.2.1.2.2.2.2.2.2.2.1 q.2.2.2.1 (fun(y:q34T)=>k (.tup []) [.box [.str y.1,.i y.2.1,.bool y.2.2.1],.box [.bp 0 0],.box [.i y.2.2.2.1,.i y.2.2.2.2.1,.i y.2.2.2.2.2.1,.i y.2.2.2.2.2.2.1,.own 3,.own 4,.bool y.2.2.2.2.2.2.2.1,.str y.2.2.2.2.2.2.2.2.1],.arr tRange y.2.2.2.2.2.2.2.2.2.1,.arr tWrite y.2.2.2.2.2.2.2.2.2.2]))
 (none))
def wlb (args:List AV)(st:St)(k:K1):Option Res:=
 vao [.bp 0 0] [.box [.str,.i,.bool]] args st (fun p q=>v65 q.1.1 q.1.2.1 q.1.2.2.1 (fun(y:q56T)=>k (.agg [.i y.1,.i y.2.1,.i y.2.2.1,.i y.2.2.2.1,.own 1,.own 2,.bool y.2.2.2.2.1,.str y.2.2.2.2.2.1]) [.box [.str y.2.2.2.2.2.2.1,.i y.2.2.2.2.2.2.2.1,.bool y.2.2.2.2.2.2.2.2.1],.arr tRange y.2.2.2.2.2.2.2.2.2.1,.arr tWrite y.2.2.2.2.2.2.2.2.2.2]))
 (none)
def wkw (args:List AV)(st:St)(k:K1):Option Res:=
 vao [.str,.i] [] args st (fun p q=>vxg p.1 p.2.1 (fun(y:q59T)=>k (.tup [.agg [.i y.1,.i y.2.1,.i y.2.2.1,.i y.2.2.2.1,.own 0,.own 1,.bool y.2.2.2.2.1,.str y.2.2.2.2.2.1],.i y.2.2.2.2.2.2.1,.bool y.2.2.2.2.2.2.2.1]) [.arr tRange y.2.2.2.2.2.2.2.2.1,.arr tWrite y.2.2.2.2.2.2.2.2.2]))
 (none)
def wkr (args:List AV)(st:St)(k:K1):Option Res:=
 vao [.i,.i,.i] [] args st (fun p q=>vgs p.1 p.2.1 p.2.2.1 (fun(y:Bool)=>k (.bool y) []))
 (none)
def wm3 (args:List AV)(st:St)(k:K1):Option Res:=
 vao [.str] [] args st (fun p q=>vmq p.1 (fun(y:Bool)=>k (.bool y) []))
 (none)
def wnc (args:List AV)(st:St)(k:K1):Option Res:=
 vao [.agg [.str,.str,.bool]] [] args st (fun p q=>vp4 (p.1.1,(p.1.2.1,p.1.2.2.1)) (fun(y:Bool)=>k (.bool y) []))
 (none)
def wmz (args:List AV)(st:St)(k:K1):Option Res:=
 vao [.lst tWrite] [] args st (fun p q=>vny p.1 (fun(y:Bool)=>k (.bool y) []))
 (none)
def wll (args:List AV)(st:St)(k:K1):Option Res:=
 vao [.agg [.str,.str]] [] args st (fun p q=>vp8 (p.1.1,p.1.2.1) (fun(y:Bool)=>k (.bool y) []))
 (none)
def wnd (args:List AV)(st:St)(k:K1):Option Res:=
 vao [.agg [.i,.i,.i,.i,.lst tRange,.lst tWrite,.bool,.str]] [] args st (fun p q=>vi3 (p.1.1,(p.1.2.1,(p.1.2.2.1,(p.1.2.2.2.1,(p.1.2.2.2.2.1,(p.1.2.2.2.2.2.1,(p.1.2.2.2.2.2.2.1,p.1.2.2.2.2.2.2.2.1))))))) (fun(y:Bool)=>k (.bool y) []))
 (none)
def wko (args:List AV)(st:St)(k:K1):Option Res:=
 vao [.i] [] args st (fun p q=>vez p.1 (fun(y:ByteArray)=>k (.str y) []))
 (none)
def wl5 (args:List AV)(st:St)(k:K1):Option Res:=
 vao [.str] [] args st (fun p q=>vg9 p.1 (fun(y:ByteArray)=>k (.str y) []))
 (none)
def wmq (args:List AV)(st:St)(k:K1):Option Res:=
 vao [.bool] [] args st (fun p q=>vp7 p.1 (fun(y:ByteArray)=>k (.str y) []))
 (none)
def wlq (args:List AV)(st:St)(k:K1):Option Res:=
 vao [.agg [.i,.i,.i,.i,.lst tRange,.lst tWrite,.bool,.str]] [] args st (fun p q=>vq8 (p.1.1,(p.1.2.1,(p.1.2.2.1,(p.1.2.2.2.1,(p.1.2.2.2.2.1,(p.1.2.2.2.2.2.1,(p.1.2.2.2.2.2.2.1,p.1.2.2.2.2.2.2.2.1))))))) (fun(y:(ByteArray×Bool))=>k (.tup [.str y.1,.bool y.2]) []))
 (none)
def wna (args:List AV)(st:St)(k:K1):Option Res:=
 vao [.bp 0 0,.i] [.box [.lst (.int .u8),.i,.i]] args st (fun p q=>vw2 p.2.1 q.1.1 q.1.2.1 q.1.2.2.1 (fun(y:q30T)=>k (.str y.1) [.box [.lst (.int .u8) y.2.1,.i y.2.2.1,.i y.2.2.2]]))
 (none)
def wmb (args:List AV)(st:St)(k:K1):Option Res:=
 vao [.bp 0 0,.str] [.box [.lst (.int .u8),.i,.i]] args st (fun p q=>v2e p.2.1 q.1.1 q.1.2.1 q.1.2.2.1 (fun(y:q30T)=>k (.str y.1) [.box [.lst (.int .u8) y.2.1,.i y.2.2.1,.i y.2.2.2]]))
 (none)
def wmi (args:List AV)(st:St)(k:K1):Option Res:=
 vao [.lst (.int .u8)] [] args st (fun p q=>v1d p.1 (fun(y:(ByteArray×Int))=>k (.tup [.str y.1,.i y.2]) []))
 (none)
def wli (args:List AV)(st:St)(k:K1):Option Res:=
 vao [.str,.i] [] args st (fun p q=>vw0 p.1 p.2.1 (fun(y:(Int×Int×Bool))=>k (.tup [.i y.1,.i y.2.1,.bool y.2.2]) []))
 (none)
def wlt (args:List AV)(st:St)(k:K1):Option Res:=
 vao [.bp 0 0] [.box [.str,.i,.bool]] args st (fun p q=>vmo q.1.1 q.1.2.1 q.1.2.2.1 (fun(y:(Int×ByteArray×Int×Bool))=>k (.i y.1) [.box [.str y.2.1,.i y.2.2.1,.bool y.2.2.2]]))
 (none)
def wla (args:List AV)(st:St)(k:K1):Option Res:=
 vao [.str,.i] [] args st (fun p q=>v0n p.1 p.2.1 (fun(y:(ByteArray×Int×Bool))=>k (.tup [.str y.1,.i y.2.1,.bool y.2.2]) []))
 (none)
def wk1 (args:List AV)(st:St)(k:K1):Option Res:=
 vao [.bp 0 0] [.box [.str,.i,.bool]] args st (fun p q=>vob q.1.1 q.1.2.1 q.1.2.2.1 (fun(y:q33T)=>k (.str y.1) [.box [.str y.2.1,.i y.2.2.1,.bool y.2.2.2]]))
 (none)
def wm4 (args:List AV)(st:St)(k:K1):Option Res:=
 vao [.bp 0 0] [.box [.str,.i,.bool]] args st (fun p q=>vw7 q.1.1 q.1.2.1 q.1.2.2.1 (fun(y:q18T)=>k (.bool y.1) [.box [.str y.2.1,.i y.2.2.1,.bool y.2.2.2]]))
 (none)
def wmj (args:List AV)(st:St)(k:K1):Option Res:=
 vao [.str,.i] [] args st (fun p q=>v0k p.1 p.2.1 (fun(y:q59T)=>k (.tup [.agg [.i y.1,.i y.2.1,.i y.2.2.1,.i y.2.2.2.1,.own 0,.own 1,.bool y.2.2.2.2.1,.str y.2.2.2.2.2.1],.i y.2.2.2.2.2.2.1,.bool y.2.2.2.2.2.2.2.1]) [.arr tRange y.2.2.2.2.2.2.2.2.1,.arr tWrite y.2.2.2.2.2.2.2.2.2]))
 (none)
def wmg (args:List AV)(st:St)(k:K1):Option Res:=
 vao [.lst (.int .u8)] [] args st (fun p q=>v2f p.1 (fun(y:q54T)=>k (.tup [.agg [.i y.1,.i y.2.1,.i y.2.2.1,.i y.2.2.2.1,.own 0,.own 1,.bool y.2.2.2.2.1,.str y.2.2.2.2.2.1],.agg [.str y.2.2.2.2.2.2.1,.str y.2.2.2.2.2.2.2.1]]) [.arr tRange y.2.2.2.2.2.2.2.2.1,.arr tWrite y.2.2.2.2.2.2.2.2.2]))
 (none)
def wk6 (args:List AV)(st:St)(k:K1):Option Res:=
 vao [.agg [.i,.i,.i,.i,.lst tRange,.lst tWrite,.bool,.str]] [] args st (fun p q=>vmy (p.1.1,(p.1.2.1,(p.1.2.2.1,(p.1.2.2.2.1,(p.1.2.2.2.2.1,(p.1.2.2.2.2.2.1,(p.1.2.2.2.2.2.2.1,p.1.2.2.2.2.2.2.2.1))))))) (fun(y:q49T)=>k (.agg [.i y.1,.i y.2.1,.i y.2.2.1,.i y.2.2.2.1,.own 0,.own 1,.bool y.2.2.2.2.1,.str y.2.2.2.2.2.1]) [.arr tRange y.2.2.2.2.2.2.1,.arr tWrite y.2.2.2.2.2.2.2]))
 (none)
def wm5 (args:List AV)(st:St)(k:K1):Option Res:=
 vao [.lst tRange,.agg [.str,.str]] [] args st (fun p q=>v23 p.1 (p.2.1.1,p.2.1.2.1) (fun(y:Int)=>k (.i y) []))
 (none)
def wnb (args:List AV)(st:St)(k:K1):Option Res:=
 vao [.lst tRange,.agg [.str,.str]] [] args st (fun p q=>vwl p.1 (p.2.1.1,p.2.1.2.1) (fun(y:Bool)=>k (.bool y) []))
 (none)
def wmt (args:List AV)(st:St)(k:K1):Option Res:=
 vao [.agg [.i,.i,.i,.i,.lst tRange,.lst tWrite,.bool,.str],.agg [.str,.str]] [] args st (fun p q=>vvy (p.1.1,(p.1.2.1,(p.1.2.2.1,(p.1.2.2.2.1,(p.1.2.2.2.2.1,(p.1.2.2.2.2.2.1,(p.1.2.2.2.2.2.2.1,p.1.2.2.2.2.2.2.2.1))))))) (p.2.1.1,p.2.1.2.1) (fun(y:q50T)=>k (.tup [.agg [.i y.1,.i y.2.1,.i y.2.2.1,.i y.2.2.2.1,.own 0,.own 1,.bool y.2.2.2.2.1,.str y.2.2.2.2.2.1],.bool y.2.2.2.2.2.2.1]) [.arr tRange y.2.2.2.2.2.2.2.1,.arr tWrite y.2.2.2.2.2.2.2.2]))
 (none)
def wmu (args:List AV)(st:St)(k:K1):Option Res:=
 vao [.agg [.i,.i,.i,.i,.lst tRange,.lst tWrite,.bool,.str],.agg [.str,.str]] [] args st (fun p q=>vvi (p.1.1,(p.1.2.1,(p.1.2.2.1,(p.1.2.2.2.1,(p.1.2.2.2.2.1,(p.1.2.2.2.2.2.1,(p.1.2.2.2.2.2.2.1,p.1.2.2.2.2.2.2.2.1))))))) (p.2.1.1,p.2.1.2.1) (fun(y:q50T)=>k (.tup [.agg [.i y.1,.i y.2.1,.i y.2.2.1,.i y.2.2.2.1,.own 0,.own 1,.bool y.2.2.2.2.1,.str y.2.2.2.2.2.1],.bool y.2.2.2.2.2.2.1]) [.arr tRange y.2.2.2.2.2.2.2.1,.arr tWrite y.2.2.2.2.2.2.2.2]))
 (none)
def wlm (args:List AV)(st:St)(k:K1):Option Res:=
 vao [.lst (.int .u8)] [] args st (fun p q=>v1e p.1 (fun(y:q55T)=>k (.tup [.agg [.i y.1,.i y.2.1,.i y.2.2.1,.i y.2.2.2.1,.own 0,.own 1,.bool y.2.2.2.2.1,.str y.2.2.2.2.2.1],.agg [.str y.2.2.2.2.2.2.1,.str y.2.2.2.2.2.2.2.1,.bool y.2.2.2.2.2.2.2.2.1]]) [.arr tRange y.2.2.2.2.2.2.2.2.2.1,.arr tWrite y.2.2.2.2.2.2.2.2.2.2]))
 (none)
def vdb (args:List AV)(st:St)(k:K1):Option Res:=
 vao [.own 0,.i,.own 1] [.arr tWrite,.arr tWrite] args st (fun p q=>v1r p.2.1 q.1 q.2.1 (fun(y:((List vaa)×(List vaa)))=>k (.own 2) [.gone,.arr tWrite y.1,.arr tWrite y.2]))
 (none)
def wl0 (args:List AV)(st:St)(k:K1):Option Res:=
 vao [.lst tWrite,.agg [.str,.str,.bool]] [] args st (fun p q=>vv9 p.1 (p.2.1.1,(p.2.1.2.1,p.2.1.2.2.1)) (fun(y:(List vaa))=>k (.own 0) [.arr tWrite y]))
 (none)
def wkp (args:List AV)(st:St)(k:K1):Option Res:=
 vao [.agg [.i,.i,.i,.i,.lst tRange,.lst tWrite,.bool,.str],.agg [.str,.str,.bool]] [] args st (fun p q=>vvg (p.1.1,(p.1.2.1,(p.1.2.2.1,(p.1.2.2.2.1,(p.1.2.2.2.2.1,(p.1.2.2.2.2.2.1,(p.1.2.2.2.2.2.2.1,p.1.2.2.2.2.2.2.2.1))))))) (p.2.1.1,(p.2.1.2.1,p.2.1.2.2.1)) (fun(y:q50T)=>k (.tup [.agg [.i y.1,.i y.2.1,.i y.2.2.1,.i y.2.2.2.1,.own 0,.own 1,.bool y.2.2.2.2.1,.str y.2.2.2.2.2.1],.bool y.2.2.2.2.2.2.1]) [.arr tRange y.2.2.2.2.2.2.2.1,.arr tWrite y.2.2.2.2.2.2.2.2]))
 (none)
def wkq (args:List AV)(st:St)(k:K1):Option Res:=
 vao [.agg [.i,.i,.i,.i,.lst tRange,.lst tWrite,.bool,.str],.agg [.str,.str,.bool]] [] args st (fun p q=>vxf (p.1.1,(p.1.2.1,(p.1.2.2.1,(p.1.2.2.2.1,(p.1.2.2.2.2.1,(p.1.2.2.2.2.2.1,(p.1.2.2.2.2.2.2.1,p.1.2.2.2.2.2.2.2.1))))))) (p.2.1.1,(p.2.1.2.1,p.2.1.2.2.1)) (fun(y:q50T)=>k (.tup [.agg [.i y.1,.i y.2.1,.i y.2.2.1,.i y.2.2.2.1,.own 0,.own 1,.bool y.2.2.2.2.1,.str y.2.2.2.2.2.1],.bool y.2.2.2.2.2.2.1]) [.arr tRange y.2.2.2.2.2.2.2.1,.arr tWrite y.2.2.2.2.2.2.2.2]))
 (none)
def wks (args:List AV)(st:St)(k:K1):Option Res:=
 vao [.lst tVersion,.lst tWrite,.i] [] args st (fun p q=>vwy p.1 p.2.1 p.2.2.1 (fun(y:(List vah))=>k (.own 0) [.arr tVersion y]))
 (none)
def wl1 (args:List AV)(st:St)(k:K1):Option Res:=
 vao [.bp 0 0] [.box [.lst (.int .u8),.i,.i]] args st (fun p q=>vz6 q.1.1 q.1.2.1 q.1.2.2.1 (fun(y:q3T)=>k (.own 1) [.box [.lst (.int .u8) y.1,.i y.2.1,.i y.2.2.1],.arr tVersion y.2.2.2]))
 (none)
def wml (args:List AV)(st:St)(k:K1):Option Res:=
 vao [.bp 0 0] [.box [.lst (.int .u8),.i,.i]] args st (fun p q=>v07 q.1.1 q.1.2.1 q.1.2.2.1 (fun(y:q3T)=>k (.own 1) [.box [.lst (.int .u8) y.1,.i y.2.1,.i y.2.2.1],.arr tVersion y.2.2.2]))
 (none)
def wmc (args:List AV)(st:St)(k:K1):Option Res:=
 vao [.lst (.int .u8)] [] args st (fun p q=>v0d p.1 (fun(y:q51T)=>k (.tup [.agg [.i y.1,.i y.2.1,.i y.2.2.1,.i y.2.2.2.1,.own 0,.own 1,.bool y.2.2.2.2.1,.str y.2.2.2.2.2.1],.own 2,.str y.2.2.2.2.2.2.1]) [.arr tRange y.2.2.2.2.2.2.2.1,.arr tWrite y.2.2.2.2.2.2.2.2.1,.arr tVersion y.2.2.2.2.2.2.2.2.2]))
 (none)
def wmd (args:List AV)(st:St)(k:K1):Option Res:=
 vao [.agg [.str,.str,.bool],.bp 0 0] [.box [.str]] args st (fun p q=>vvn (p.1.1,(p.1.2.1,p.1.2.2.1)) q.1.1 (fun(y:(Bool×ByteArray))=>k (.bool y.1) [.box [.str y.2]]))
 (none)
def ved (args:List AV)(st:St)(k:K1):Option Res:=
 vao [.lst tWrite,.fn 184 [.bp 0 0]] [.box [.str]] args st (fun p q=>v10 p.1 q.1.1 (fun(y:(Int×ByteArray))=>k (.i y.1) [.box [.str y.2]]))
 (none)
def wms (args:List AV)(st:St)(k:K1):Option Res:=
 vao [.agg [.i,.i,.i,.i,.lst tRange,.lst tWrite,.bool,.str],.str] [] args st (fun p q=>v7t (p.1.1,(p.1.2.1,(p.1.2.2.1,(p.1.2.2.2.1,(p.1.2.2.2.2.1,(p.1.2.2.2.2.2.1,(p.1.2.2.2.2.2.2.1,p.1.2.2.2.2.2.2.2.1))))))) p.2.1 (fun(y:Int)=>k (.i y) []))
 (none)
def wm2 (args:List AV)(st:St)(k:K1):Option Res:=
 vao [.lst tVersion,.str,.i] [] args st (fun p q=>vxp p.1 p.2.1 p.2.2.1 (fun(y:Int)=>k (.i y) []))
 (none)
def wmm (args:List AV)(st:St)(k:K1):Option Res:=
 vao [.lst tVersion,.str,.i] [] args st (fun p q=>v2s p.1 p.2.1 p.2.2.1 (fun(y:(ByteArray×Bool))=>k (.tup [.str y.1,.bool y.2]) []))
 (none)
def wl3 (args:List AV)(st:St)(k:K1):Option Res:=
 vao [.agg [.i,.i,.i,.i,.lst tRange,.lst tWrite,.bool,.str],.lst tVersion,.str] [] args st (fun p q=>v2l (p.1.1,(p.1.2.1,(p.1.2.2.1,(p.1.2.2.2.1,(p.1.2.2.2.2.1,(p.1.2.2.2.2.2.1,(p.1.2.2.2.2.2.2.1,p.1.2.2.2.2.2.2.2.1))))))) p.2.1 p.2.2.1 (fun(y:(ByteArray×Bool))=>k (.tup [.str y.1,.bool y.2]) []))
 (none)
def wl4 (args:List AV)(st:St)(k:K1):Option Res:=
 vao [.lst tVersion,.str,.i] [] args st (fun p q=>vv8 p.1 p.2.1 p.2.2.1 (fun(y:Int)=>k (.i y) []))
 (none)
def wlh (args:List AV)(st:St)(k:K1):Option Res:=
 vao [.lst tVersion,.str,.i] [] args st (fun p q=>vwu p.1 p.2.1 p.2.2.1 (fun(y:(ByteArray×Bool))=>k (.tup [.str y.1,.bool y.2]) []))
 (none)
def wk0 (args:List AV)(st:St)(k:K1):Option Res:=
 vao [.agg [.i,.i,.i,.i,.lst tRange,.lst tWrite,.bool,.str],.lst tVersion,.str] [] args st (fun p q=>vq3 (p.1.1,(p.1.2.1,(p.1.2.2.1,(p.1.2.2.2.1,(p.1.2.2.2.2.1,(p.1.2.2.2.2.2.1,(p.1.2.2.2.2.2.2.1,p.1.2.2.2.2.2.2.2.1))))))) p.2.1 p.2.2.1 (fun(y:(ByteArray×Bool))=>k (.tup [.str y.1,.bool y.2]) []))
 (none)
def wkt (args:List AV)(st:St)(k:K1):Option Res:=
 vao [.lst tWrite,.lst tWrite] [] args st (fun p q=>vsz p.1 p.2.1 (fun(y:Bool)=>k (.bool y) []))
 (none)
def wl6 (args:List AV)(st:St)(k:K1):Option Res:=
 vao [.agg [.i,.i,.i,.i,.lst tRange,.lst tWrite,.bool,.str],.agg [.i,.i,.i,.i,.lst tRange,.lst tWrite,.bool,.str]] [] args st (fun p q=>vg6 (p.1.1,(p.1.2.1,(p.1.2.2.1,(p.1.2.2.2.1,(p.1.2.2.2.2.1,(p.1.2.2.2.2.2.1,(p.1.2.2.2.2.2.2.1,p.1.2.2.2.2.2.2.2.1))))))) (p.2.1.1,(p.2.1.2.1,(p.2.1.2.2.1,(p.2.1.2.2.2.1,(p.2.1.2.2.2.2.1,(p.2.1.2.2.2.2.2.1,(p.2.1.2.2.2.2.2.2.1,p.2.1.2.2.2.2.2.2.2.1))))))) (fun(y:Bool)=>k (.bool y) []))
 (none)
def wld (args:List AV)(st:St)(k:K1):Option Res:=
 vao [.str,.str] [] args st (fun p q=>vs3 p.1 p.2.1 (fun(y:Bool)=>k (.bool y) []))
 (none)
def wd4 (args:List AV)(st:St)(k:K1):Option Res:=
 vao [.lst (.int .u8)] [] args st (fun p q=>v6d p.1 (fun(y:Bool)=>k (.bool y) []))
 (none)
end
end Go.VE
