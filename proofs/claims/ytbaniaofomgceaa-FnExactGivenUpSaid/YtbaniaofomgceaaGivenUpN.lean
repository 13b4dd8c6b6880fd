/- Native programs of the functions, written by gen.py. -/
import Derived.Test.YtbaniaofomgceaaT0
namespace Go.VE
noncomputable section
set_option linter.unusedVariables false
set_option linter.unusedSimpArgs false
set_option maxRecDepth 100000
abbrev q0T:Type:=((List vak)×(List vak)×Bool×Int)
abbrev q1T:Type:=((List vak)×Int×(List vak))
abbrev q2T:Type:=((List vak)×Int×Int×Int)
abbrev q3T:Type:=((List dTxn)×(List dTxn)×Bool×Int)
abbrev q4T:Type:=((List dTxn)×Int×(List dTxn))
abbrev q5T:Type:=((List dTxn)×Int×Int×(List dTxn))
abbrev q6T:Type:=((List dTxn)×Int×Int×Int×ByteArray)
abbrev q7T:Type:=((List dTxn)×Int×Int×Int)
abbrev q8T:Type:=((List vaa)×(List vaa)×Bool×Int)
abbrev q9T:Type:=((List vaa)×Int×(List vaa))
abbrev q10T:Type:=((List vaa)×Int×Int×Int)
abbrev q11T:Type:=((List vai)×(List vai)×Bool×Int)
abbrev q12T:Type:=((List vai)×Int×(List vai))
abbrev q13T:Type:=((List vai)×Int×Int×Int)
abbrev q14T:Type:=(ByteArray×Bool×(List vaa)×(List dTxn)×(List dTxn)×Int×Int×Int×Int×Int×Int×(List vaa)×(List dTxn)×(List dTxn)×(List vaa)×(List dTxn)×(List dTxn))
abbrev q15T:Type:=(ByteArray×ByteArray×Bool×Int)
abbrev q16T:Type:=(ByteArray×Int×(List vaa)×(List dTxn)×(List dTxn)×Int×Int×Int×Int×Int×Int×(List vaa)×(List dTxn)×(List dTxn))
abbrev q17T:Type:=(Int×(List vaa)×(List dTxn)×(List dTxn))
abbrev q18T:Type:=(Int×Int×(List vaa)×(List dTxn)×(List dTxn))
abbrev q19T:Type:=(Int×Int×Int×Int×Bool×ByteArray×(List vak)×(List vai))
def vyf (a0:vaa)(a1:Int)(k:Int→Option Res):Option Res:=
 bif (decide ((IntKind.wrap .i64 (a1-(a0.1.size:Int)))<(0:Int)))then
 k (-1:Int)
 else
 bif (decide ((IntKind.wrap .i64 ((IntKind.wrap .i64 (a1-(a0.1.size:Int)))-(a0.2.1.size:Int)))<(0:Int)))then
 k (-1:Int)
 else
 k (IntKind.wrap .i64 ((IntKind.wrap .i64 (a1-(a0.1.size:Int)))-(a0.2.1.size:Int)))
def vqv:=shut vyf
theorem v2o:vqv=vyf:=vaj _
instance n31n_p (a0:vaa)(a1:Int):ParC (vqv a0 a1):=by rw [v2o];unfold vyf;(try dsimp only);infer_instance
def vhw (x:q10T)(k:q10T⊕(q10T⊕q10T)→Option Res):Option Res:=
 bif (decide (x.2.2.2<(x.1.length:Int)))then
 if 0≤x.2.2.2∧x.2.2.2<(x.1.length:Int)then
 vqv (rd (Ty.zero tVersion) x.1 x.2.2.2) x.2.1 (fun y3=>
 bif (decide (y3<0))then
 k (.inr (.inl (x.1,y3,(-1:Int),x.2.2.2)))
 else
 k (.inl (x.1,y3,x.2.2.1,(IntKind.wrap .i64 (x.2.2.2+1)))))
 else none
 else
 k (.inr (.inr (x.1,x.2.1,x.2.2.1,x.2.2.2)))
instance n32n_bp0 (x:q10T):ParC (vhw x):=by unfold vhw;(try dsimp only);infer_instance
def vx1 (a0:(List vaa))(a1:Int)(k:Int→Option Res):Option Res:=
 bif (decide ((IntKind.wrap .i64 (a1-(a0.length:Int)))<(0:Int)))then
 k (-1:Int)
 else
 vad vhw Fuel (a0,(IntKind.wrap .i64 (a1-(a0.length:Int))),0,0) (Sum.elim (fun z1=>
 k z1.2.2.1) (fun z2=>
 k z2.2.1))
def vv0:=shut vx1
theorem v4c:vv0=vx1:=vaj _
instance n32n_p (a0:(List vaa))(a1:Int):ParC (vv0 a0 a1):=by rw [v4c];unfold vx1;(try dsimp only);infer_instance
def vya (a0:vak)(a1:Int)(k:Int→Option Res):Option Res:=
 bif (decide ((IntKind.wrap .i64 (a1-(a0.1.size:Int)))<(0:Int)))then
 k (-1:Int)
 else
 bif (decide ((IntKind.wrap .i64 ((IntKind.wrap .i64 (a1-(a0.1.size:Int)))-(a0.2.size:Int)))<(0:Int)))then
 k (-1:Int)
 else
 k (IntKind.wrap .i64 ((IntKind.wrap .i64 (a1-(a0.1.size:Int)))-(a0.2.size:Int)))
def vq9:=shut vya
theorem v14:vq9=vya:=vaj _
instance n27n_p (a0:vak)(a1:Int):ParC (vq9 a0 a1):=by rw [v14];unfold vya;(try dsimp only);infer_instance
def vhl (x:q2T)(k:q2T⊕(q2T⊕q2T)→Option Res):Option Res:=
 bif (decide (x.2.2.2<(x.1.length:Int)))then
 if 0≤x.2.2.2∧x.2.2.2<(x.1.length:Int)then
 vq9 (rd (Ty.zero tRange) x.1 x.2.2.2) x.2.1 (fun y3=>
 bif (decide (y3<0))then
 k (.inr (.inl (x.1,y3,(-1:Int),x.2.2.2)))
 else
 k (.inl (x.1,y3,x.2.2.1,(IntKind.wrap .i64 (x.2.2.2+1)))))
 else none
 else
 k (.inr (.inr (x.1,x.2.1,x.2.2.1,x.2.2.2)))
instance n28n_bp0 (x:q2T):ParC (vhl x):=by unfold vhl;(try dsimp only);infer_instance
def vyu (a0:(List vak))(a1:Int)(k:Int→Option Res):Option Res:=
 bif (decide ((IntKind.wrap .i64 (a1-(a0.length:Int)))<(0:Int)))then
 k (-1:Int)
 else
 vad vhl Fuel (a0,(IntKind.wrap .i64 (a1-(a0.length:Int))),0,0) (Sum.elim (fun z1=>
 k z1.2.2.1) (fun z2=>
 k z2.2.1))
def vvj:=shut vyu
theorem v1p:vvj=vyu:=vaj _
instance n28n_p (a0:(List vak))(a1:Int):ParC (vvj a0 a1):=by rw [v1p];unfold vyu;(try dsimp only);infer_instance
def vzk (a0:vai)(a1:Int)(k:Int→Option Res):Option Res:=
 bif (decide ((IntKind.wrap .i64 (a1-(a0.1.size:Int)))<(0:Int)))then
 k (-1:Int)
 else
 bif (decide ((IntKind.wrap .i64 ((IntKind.wrap .i64 (a1-(a0.1.size:Int)))-(a0.2.1.size:Int)))<(0:Int)))then
 k (-1:Int)
 else
 k (IntKind.wrap .i64 ((IntKind.wrap .i64 (a1-(a0.1.size:Int)))-(a0.2.1.size:Int)))
def vrg:=shut vzk
theorem v4o:vrg=vzk:=vaj _
instance n33n_p (a0:vai)(a1:Int):ParC (vrg a0 a1):=by rw [v4o];unfold vzk;(try dsimp only);infer_instance
def vhx (x:q13T)(k:q13T⊕(q13T⊕q13T)→Option Res):Option Res:=
 bif (decide (x.2.2.2<(x.1.length:Int)))then
 if 0≤x.2.2.2∧x.2.2.2<(x.1.length:Int)then
 vrg (rd (Ty.zero tWrite) x.1 x.2.2.2) x.2.1 (fun y3=>
 bif (decide (y3<0))then
 k (.inr (.inl (x.1,y3,(-1:Int),x.2.2.2)))
 else
 k (.inl (x.1,y3,x.2.2.1,(IntKind.wrap .i64 (x.2.2.2+1)))))
 else none
 else
 k (.inr (.inr (x.1,x.2.1,x.2.2.1,x.2.2.2)))
instance n34n_bp0 (x:q13T):ParC (vhx x):=by unfold vhx;(try dsimp only);infer_instance
def vy4 (a0:(List vai))(a1:Int)(k:Int→Option Res):Option Res:=
 bif (decide ((IntKind.wrap .i64 (a1-(a0.length:Int)))<(0:Int)))then
 k (-1:Int)
 else
 vad vhx Fuel (a0,(IntKind.wrap .i64 (a1-(a0.length:Int))),0,0) (Sum.elim (fun z1=>
 k z1.2.2.1) (fun z2=>
 k z2.2.1))
def vt7:=shut vy4
theorem v13:vt7=vy4:=vaj _
instance n34n_p (a0:(List vai))(a1:Int):ParC (vt7 a0 a1):=by rw [v13];unfold vy4;(try dsimp only);infer_instance
def vz0 (a0:dTxn)(a1:Int)(k:Int→Option Res):Option Res:=
 vvj a0.2.2.2.2.1 a1 (fun y1=>
 bif (decide (y1<0))then
 k (-1:Int)
 else
 vt7 a0.2.2.2.2.2.1 y1 (fun y2=>
 bif (decide (y2<0))then
 k (-1:Int)
 else
 bif (decide ((IntKind.wrap .i64 (y2-(a0.2.2.2.2.2.2.2.size:Int)))<(0:Int)))then
 k (-1:Int)
 else
 k (IntKind.wrap .i64 (y2-(a0.2.2.2.2.2.2.2.size:Int)))))
def vsc:=shut vz0
theorem v33:vsc=vz0:=vaj _
instance n29n_p (a0:dTxn)(a1:Int):ParC (vsc a0 a1):=by rw [v33];unfold vz0;(try dsimp only);infer_instance
def vif (x:q7T)(k:q7T⊕(q7T⊕q7T)→Option Res):Option Res:=
 bif (decide (x.2.2.2<(x.1.length:Int)))then
 if 0≤x.2.2.2∧x.2.2.2<(x.1.length:Int)then
 vsc (rd (Ty.zero tTxn) x.1 x.2.2.2) x.2.1 (fun y3=>
 bif (decide (y3<0))then
 k (.inr (.inl (x.1,y3,(-1:Int),x.2.2.2)))
 else
 k (.inl (x.1,y3,x.2.2.1,(IntKind.wrap .i64 (x.2.2.2+1)))))
 else none
 else
 k (.inr (.inr (x.1,x.2.1,x.2.2.1,x.2.2.2)))
instance n30n_bp0 (x:q7T):ParC (vif x):=by unfold vif;(try dsimp only);infer_instance
def vy5 (a0:(List dTxn))(a1:Int)(k:Int→Option Res):Option Res:=
 bif (decide ((IntKind.wrap .i64 (a1-(a0.length:Int)))<(0:Int)))then
 k (-1:Int)
 else
 vad vif Fuel (a0,(IntKind.wrap .i64 (a1-(a0.length:Int))),0,0) (Sum.elim (fun z1=>
 k z1.2.2.1) (fun z2=>
 k z2.2.1))
def vqi:=shut vy5
theorem v2x:vqi=vy5:=vaj _
instance n30n_p (a0:(List dTxn))(a1:Int):ParC (vqi a0 a1):=by rw [v2x];unfold vy5;(try dsimp only);infer_instance
def vye (a0:vdk)(a1:Int)(k:Int→Option Res):Option Res:=
 vv0 a0.1 a1 (fun y1=>
 bif (decide (y1<0))then
 k (-1:Int)
 else
 vqi a0.2.1 y1 (fun y2=>
 bif (decide (y2<0))then
 k (-1:Int)
 else
 vqi a0.2.2.1 y2 (fun y3=>
 bif (decide (y3<0))then
 k (-1:Int)
 else
 k y3)))
def vrh:=shut vye
theorem v2a:vrh=vye:=vaj _
instance n26n_p (a0:vdk)(a1:Int):ParC (vrh a0 a1):=by rw [v2a];unfold vye;(try dsimp only);infer_instance
def v2r (a0:vaa)(k:q15T→Option Res):Option Res:=
 k (a0.1,a0.2.1,a0.2.2.1,a0.2.2.2)
def vrs:=shut v2r
theorem v2k:vrs=v2r:=vaj _
instance n40n_p (a0:vaa):ParC (vrs a0):=by rw [v2k];unfold v2r;(try dsimp only);infer_instance
def vh2 (x:q9T)(k:q9T⊕q9T→Option Res):Option Res:=
 bif (decide (x.2.1<(x.1.length:Int)))then
 if 0≤x.2.1∧x.2.1<(x.1.length:Int)then
 vrs (rd (Ty.zero tVersion) x.1 x.2.1) (fun y2=>
 if 0≤x.2.1∧x.2.1<(x.2.2.length:Int)then
 k (.inl (x.1,(IntKind.wrap .i64 (x.2.1+1)),(x.2.2.set x.2.1.toNat y2)))
 else none)
 else none
 else
 k (.inr (x.1,x.2.1,x.2.2))
instance n41n_bp0 (x:q9T):ParC (vh2 x):=by unfold vh2;(try dsimp only);infer_instance
def vyk (a0:(List vaa))(k:(List vaa)→Option Res):Option Res:=
 if 0≤(a0.length:Int)∧(a0.length:Int)≤(a0.length:Int)∧(a0.length:Int)≤(VE.maxLen:Int)then
 vad vh2 Fuel (a0,0,(List.replicate (a0.length:Int).toNat (Ty.zero tVersion))) (fun z1=>
 k z1.2.2)
 else none
def vqo:=shut vyk
theorem v1o:vqo=vyk:=vaj _
instance n41n_p (a0:(List vaa)):ParC (vqo a0):=by rw [v1o];unfold vyk;(try dsimp only);infer_instance
def v39 (a0:vak)(k:(ByteArray×ByteArray)→Option Res):Option Res:=
 k (a0.1,a0.2)
def vq4:=shut v39
theorem v20:vq4=v39:=vaj _
instance n36n_p (a0:vak):ParC (vq4 a0):=by rw [v20];unfold v39;(try dsimp only);infer_instance
def vih (x:q1T)(k:q1T⊕q1T→Option Res):Option Res:=
 bif (decide (x.2.1<(x.1.length:Int)))then
 if 0≤x.2.1∧x.2.1<(x.1.length:Int)then
 vq4 (rd (Ty.zero tRange) x.1 x.2.1) (fun y2=>
 if 0≤x.2.1∧x.2.1<(x.2.2.length:Int)then
 k (.inl (x.1,(IntKind.wrap .i64 (x.2.1+1)),(x.2.2.set x.2.1.toNat y2)))
 else none)
 else none
 else
 k (.inr (x.1,x.2.1,x.2.2))
instance n37n_bp0 (x:q1T):ParC (vih x):=by unfold vih;(try dsimp only);infer_instance
def vzo (a0:(List vak))(k:(List vak)→Option Res):Option Res:=
 if 0≤(a0.length:Int)∧(a0.length:Int)≤(a0.length:Int)∧(a0.length:Int)≤(VE.maxLen:Int)then
 vad vih Fuel (a0,0,(List.replicate (a0.length:Int).toNat (Ty.zero tRange))) (fun z1=>
 k z1.2.2)
 else none
def vqe:=shut vzo
theorem v1l:vqe=vzo:=vaj _
instance n37n_p (a0:(List vak)):ParC (vqe a0):=by rw [v1l];unfold vzo;(try dsimp only);infer_instance
def v3h (a0:vai)(k:(ByteArray×ByteArray×Bool)→Option Res):Option Res:=
 k (a0.1,a0.2.1,a0.2.2)
def vqf:=shut v3h
theorem v2i:vqf=v3h:=vaj _
instance n42n_p (a0:vai):ParC (vqf a0):=by rw [v2i];unfold v3h;(try dsimp only);infer_instance
def vhj (x:q12T)(k:q12T⊕q12T→Option Res):Option Res:=
 bif (decide (x.2.1<(x.1.length:Int)))then
 if 0≤x.2.1∧x.2.1<(x.1.length:Int)then
 vqf (rd (Ty.zero tWrite) x.1 x.2.1) (fun y2=>
 if 0≤x.2.1∧x.2.1<(x.2.2.length:Int)then
 k (.inl (x.1,(IntKind.wrap .i64 (x.2.1+1)),(x.2.2.set x.2.1.toNat y2)))
 else none)
 else none
 else
 k (.inr (x.1,x.2.1,x.2.2))
instance n43n_bp0 (x:q12T):ParC (vhj x):=by unfold vhj;(try dsimp only);infer_instance
def vx4 (a0:(List vai))(k:(List vai)→Option Res):Option Res:=
 if 0≤(a0.length:Int)∧(a0.length:Int)≤(a0.length:Int)∧(a0.length:Int)≤(VE.maxLen:Int)then
 vad vhj Fuel (a0,0,(List.replicate (a0.length:Int).toNat (Ty.zero tWrite))) (fun z1=>
 k z1.2.2)
 else none
def vqr:=shut vx4
theorem v34:vqr=vx4:=vaj _
instance n43n_p (a0:(List vai)):ParC (vqr a0):=by rw [v34];unfold vx4;(try dsimp only);infer_instance
def vzp (a0:dTxn)(k:q19T→Option Res):Option Res:=
 vqe a0.2.2.2.2.1 (fun y1=>
 vqr a0.2.2.2.2.2.1 (fun y2=>
 k (a0.1,a0.2.1,a0.2.2.1,a0.2.2.2.1,a0.2.2.2.2.2.2.1,a0.2.2.2.2.2.2.2,y1,y2)))
def vnw:=shut vzp
theorem v4s:vnw=vzp:=vaj _
instance n38n_p (a0:dTxn):ParC (vnw a0):=by rw [v4s];unfold vzp;(try dsimp only);infer_instance
def vhy (x:q4T)(k:q4T⊕q4T→Option Res):Option Res:=
 bif (decide (x.2.1<(x.1.length:Int)))then
 if 0≤x.2.1∧x.2.1<(x.1.length:Int)then
 vnw (rd (Ty.zero tTxn) x.1 x.2.1) (fun y2=>
 if 0≤x.2.1∧x.2.1<(x.2.2.length:Int)then
 k (.inl (x.1,(IntKind.wrap .i64 (x.2.1+1)),(x.2.2.set x.2.1.toNat (y2.1,(y2.2.1,(y2.2.2.1,(y2.2.2.2.1,(y2.2.2.2.2.2.2.1,(y2.2.2.2.2.2.2.2,(y2.2.2.2.2.1,y2.2.2.2.2.2.1))))))))))
 else none)
 else none
 else
 k (.inr (x.1,x.2.1,x.2.2))
instance n39n_bp0 (x:q4T):ParC (vhy x):=by unfold vhy;(try dsimp only);infer_instance
def vyq (a0:(List dTxn))(k:(List dTxn)→Option Res):Option Res:=
 if 0≤(a0.length:Int)∧(a0.length:Int)≤(a0.length:Int)∧(a0.length:Int)≤(VE.maxLen:Int)then
 vad vhy Fuel (a0,0,(List.replicate (a0.length:Int).toNat (Ty.zero tTxn))) (fun z1=>
 k z1.2.2)
 else none
def vop:=shut vyq
theorem v2l:vop=vyq:=vaj _
instance n39n_p (a0:(List dTxn)):ParC (vop a0):=by rw [v2l];unfold vyq;(try dsimp only);infer_instance
def vyg (a0:vdk)(k:q18T→Option Res):Option Res:=
 vqo a0.1 (fun y1=>
 vop a0.2.1 (fun y2=>
 vop a0.2.2.1 (fun y3=>
 k (a0.2.2.2.1,a0.2.2.2.2,y1,y2,y3))))
def vf6:=shut vyg
theorem v4f:vf6=vyg:=vaj _
instance n35n_p (a0:vdk):ParC (vf6 a0):=by rw [v4f];unfold vyg;(try dsimp only);infer_instance
def vz2 (a0:dTxn)(k:q19T→Option Res):Option Res:=
 if([]:List vak).length+a0.2.2.2.2.1.length≤VE.maxLen then
 if([]:List vai).length+a0.2.2.2.2.2.1.length≤VE.maxLen then
 k (a0.1,a0.2.1,a0.2.2.1,a0.2.2.2.1,a0.2.2.2.2.2.2.1,a0.2.2.2.2.2.2.2,(([]:List vak)++a0.2.2.2.2.1),(([]:List vai)++a0.2.2.2.2.2.1))
 else none
 else none
def vml:=shut vz2
theorem v28:vml=vz2:=vaj _
instance n47n_p (a0:dTxn):ParC (vml a0):=by rw [v28];unfold vz2;(try dsimp only);infer_instance
def vim (x:q4T)(k:q4T⊕q4T→Option Res):Option Res:=
 bif (decide (x.2.1<(x.1.length:Int)))then
 if 0≤x.2.1∧x.2.1<(x.1.length:Int)then
 vml (rd (Ty.zero tTxn) x.1 x.2.1) (fun y2=>
 if x.2.2.length+[(y2.1,(y2.2.1,(y2.2.2.1,(y2.2.2.2.1,(y2.2.2.2.2.2.2.1,(y2.2.2.2.2.2.2.2,(y2.2.2.2.2.1,y2.2.2.2.2.2.1)))))))].length≤VE.maxLen then
 k (.inl (x.1,(IntKind.wrap .i64 (x.2.1+(1:Int))),(x.2.2++[(y2.1,(y2.2.1,(y2.2.2.1,(y2.2.2.2.1,(y2.2.2.2.2.2.2.1,(y2.2.2.2.2.2.2.2,(y2.2.2.2.2.1,y2.2.2.2.2.2.1)))))))])))
 else none)
 else none
 else
 k (.inr (x.1,x.2.1,x.2.2))
instance n49n_bp0 (x:q4T):ParC (vim x):=by unfold vim;(try dsimp only);infer_instance
def vx5 (a0:(List dTxn))(k:(List dTxn)→Option Res):Option Res:=
 vad vim Fuel (a0,0,([]:List dTxn)) (fun z1=>
 k z1.2.2)
def vnv:=shut vx5
theorem v3o:vnv=vx5:=vaj _
instance n49n_p (a0:(List dTxn)):ParC (vnv a0):=by rw [v3o];unfold vx5;(try dsimp only);infer_instance
def vyj (a0:vdk)(k:q18T→Option Res):Option Res:=
 if([]:List vaa).length+a0.1.length≤VE.maxLen then
 vnv a0.2.1 (fun y1=>
 vnv a0.2.2.1 (fun y2=>
 k (a0.2.2.2.1,a0.2.2.2.2,(([]:List vaa)++a0.1),y1,y2)))
 else none
def vqc:=shut vyj
theorem v3z:vqc=vyj:=vaj _
instance n48n_p (a0:vdk):ParC (vqc a0):=by rw [v3z];unfold vyj;(try dsimp only);infer_instance
def vha (x:q16T)(k:q16T⊕q16T→Option Res):Option Res:=
 let xh:=x.2.2.2.2.2.2.2.2
 bif (decide (x.2.1<(x.2.2.2.2.1.length:Int)))then
 if 0≤x.2.1∧x.2.1<(x.2.2.2.2.1.length:Int)then
 bif (!(vba ((rd (Ty.zero tTxn) x.2.2.2.2.1 x.2.1).2.2.2.2.2.2.2) x.1))then
 if 0≤x.2.1∧x.2.1<(x.2.2.2.2.1.length:Int)then
 vml (rd (Ty.zero tTxn) x.2.2.2.2.1 x.2.1) (fun y3=>
 if xh.2.2.2.2.2.length+[(y3.1,(y3.2.1,(y3.2.2.1,(y3.2.2.2.1,(y3.2.2.2.2.2.2.1,(y3.2.2.2.2.2.2.2,(y3.2.2.2.2.1,y3.2.2.2.2.2.1)))))))].length≤VE.maxLen then
 k (.inl (x.1,(IntKind.wrap .i64 (x.2.1+(1:Int))),x.2.2.1,x.2.2.2.1,x.2.2.2.2.1,x.2.2.2.2.2.1,x.2.2.2.2.2.2.1,x.2.2.2.2.2.2.2.1,xh.1,xh.2.1,xh.2.2.1,xh.2.2.2.1,xh.2.2.2.2.1,(xh.2.2.2.2.2++[(y3.1,(y3.2.1,(y3.2.2.1,(y3.2.2.2.1,(y3.2.2.2.2.2.2.1,(y3.2.2.2.2.2.2.2,(y3.2.2.2.2.1,y3.2.2.2.2.2.1)))))))])))
 else none)
 else none
 else
 k (.inl (x.1,(IntKind.wrap .i64 (x.2.1+1)),x.2.2.1,x.2.2.2.1,x.2.2.2.2.1,x.2.2.2.2.2.1,x.2.2.2.2.2.2.1,x.2.2.2.2.2.2.2.1,xh.1,xh.2.1,xh.2.2.1,xh.2.2.2.1,xh.2.2.2.2.1,xh.2.2.2.2.2))
 else none
 else
 k (.inr (x.1,x.2.1,x.2.2.1,x.2.2.2.1,x.2.2.2.2.1,x.2.2.2.2.2.1,x.2.2.2.2.2.2.1,x.2.2.2.2.2.2.2.1,xh.1,xh.2.1,xh.2.2.1,xh.2.2.2.1,xh.2.2.2.2.1,xh.2.2.2.2.2))
instance n46n_bp0 (x:q16T):ParC (vha x):=by unfold vha;(try dsimp only);infer_instance
def vzd (a0:vdk)(a1:ByteArray)(k:q18T→Option Res):Option Res:=
 vqc a0 (fun y1=>
 vad vha Fuel (a1,0,a0.1,a0.2.1,a0.2.2.1,a0.2.2.2.1,a0.2.2.2.2,0,0,y1.1,y1.2.1,y1.2.2.1,y1.2.2.2.1,([]:List dTxn)) (fun z2=>
 let z2h:=z2.2.2.2.2.2.2.2.2
 k (z2h.2.1,z2h.2.2.1,z2h.2.2.2.1,z2h.2.2.2.2.1,z2h.2.2.2.2.2)))
def vn1:=shut vzd
theorem v2s:vn1=vzd:=vaj _
instance n46n_p (a0:vdk)(a1:ByteArray):ParC (vn1 a0 a1):=by rw [v2s];unfold vzd;(try dsimp only);infer_instance
def vy3 (a0:dTxn)(k:q19T→Option Res):Option Res:=
 if a0.2.2.2.2.1.length≤VE.maxLen then
 if a0.2.2.2.2.2.1.length≤VE.maxLen then
 k (a0.1,a0.2.1,a0.2.2.1,a0.2.2.2.1,a0.2.2.2.2.2.2.1,a0.2.2.2.2.2.2.2,a0.2.2.2.2.1,a0.2.2.2.2.2.1)
 else none
 else none
def vrk:=shut vy3
theorem v4u:vrk=vy3:=vaj _
instance n03n_p (a0:dTxn):ParC (vrk a0):=by rw [v4u];unfold vy3;(try dsimp only);infer_instance
def vg9 (x:q5T)(k:q5T⊕q5T→Option Res):Option Res:=
 bif (decide (x.2.2.1<x.2.1))then
 if 0≤x.2.2.1∧x.2.2.1<(x.1.length:Int)then
 vrk (rd (Ty.zero tTxn) x.1 x.2.2.1) (fun y2=>
 if x.2.2.2.length+[(y2.1,(y2.2.1,(y2.2.2.1,(y2.2.2.2.1,(y2.2.2.2.2.2.2.1,(y2.2.2.2.2.2.2.2,(y2.2.2.2.2.1,y2.2.2.2.2.2.1)))))))].length≤VE.maxLen then
 k (.inl (x.1,x.2.1,(IntKind.wrap .i64 (x.2.2.1+(1:Int))),(x.2.2.2++[(y2.1,(y2.2.1,(y2.2.2.1,(y2.2.2.2.1,(y2.2.2.2.2.2.2.1,(y2.2.2.2.2.2.2.2,(y2.2.2.2.2.1,y2.2.2.2.2.2.1)))))))])))
 else none)
 else none
 else
 k (.inr (x.1,x.2.1,x.2.2.1,x.2.2.2))
instance n04n_bp0 (x:q5T):ParC (vg9 x):=by unfold vg9;(try dsimp only);infer_instance
def vzu (a0:(List dTxn))(k:(List dTxn)→Option Res):Option Res:=
 vad vg9 Fuel (a0,(a0.length:Int),0,([]:List dTxn)) (fun z1=>
 k z1.2.2.2)
def vnr:=shut vzu
theorem v3s:vnr=vzu:=vaj _
instance n04n_p (a0:(List dTxn)):ParC (vnr a0):=by rw [v3s];unfold vzu;(try dsimp only);infer_instance
def vx9 (a0:vdk)(k:q18T→Option Res):Option Res:=
 if a0.1.length≤VE.maxLen then
 vnr a0.2.1 (fun y1=>
 vnr a0.2.2.1 (fun y2=>
 k (a0.2.2.2.1,a0.2.2.2.2,a0.1,y1,y2)))
 else none
def vuk:=shut vx9
theorem v4j:vuk=vx9:=vaj _
instance n02n_p (a0:vdk):ParC (vuk a0):=by rw [v4j];unfold vx9;(try dsimp only);infer_instance
def v2p (a0:dTxn)(a1:ByteArray)(k:(Bool×ByteArray)→Option Res):Option Res:=
 k ((vba a0.2.2.2.2.2.2.2 a1),a1)
def vmg:=shut v2p
theorem v18:vmg=v2p:=vaj _
instance n01n_p (a0:dTxn)(a1:ByteArray):ParC (vmg a0 a1):=by rw [v18];unfold v2p;(try dsimp only);infer_instance
def vhq (x:q6T)(k:q6T⊕(q6T⊕q6T)→Option Res):Option Res:=
 bif (decide (x.2.2.2.1<x.2.2.1))then
 if 0≤x.2.2.2.1∧x.2.2.2.1<(x.1.length:Int)then
 vmg (rd (Ty.zero tTxn) x.1 x.2.2.2.1) x.2.2.2.2 (fun y3=>
 bif y3.1 then
 k (.inr (.inl (x.1,x.2.2.2.1,x.2.2.1,x.2.2.2.1,y3.2)))
 else
 k (.inl (x.1,x.2.1,x.2.2.1,(IntKind.wrap .i64 (x.2.2.2.1+1)),y3.2)))
 else none
 else
 k (.inr (.inr (x.1,x.2.1,x.2.2.1,x.2.2.2.1,x.2.2.2.2)))
instance n45n_bp0 (x:q6T):ParC (vhq x):=by unfold vhq;(try dsimp only);infer_instance
def vy1 (a0:(List dTxn))(a1:ByteArray)(k:(Int×ByteArray)→Option Res):Option Res:=
 vad vhq Fuel (a0,0,(a0.length:Int),0,a1) (Sum.elim (fun z1=>
 k (z1.2.1,z1.2.2.2.2)) (fun z2=>
 k ((-1:Int),z2.2.2.2.2)))
def vnl:=shut vy1
theorem v35:vnl=vy1:=vaj _
instance n45n_p (a0:(List dTxn))(a1:ByteArray):ParC (vnl a0 a1):=by rw [v35];unfold vy1;(try dsimp only);infer_instance
def vd8 (x:((Int×Int×(List dTxn)×(List Nat)×ByteArray)⊕(Int×Int×(List dTxn)×(List Nat)×ByteArray)))(k:((Int×Int×(List dTxn)×(List Nat)×ByteArray)⊕(Int×Int×(List dTxn)×(List Nat)×ByteArray))⊕((Int×Int×(List dTxn)×(List Nat)×ByteArray)⊕(Int×Int×(List dTxn)×(List Nat)×ByteArray))→Option Res):Option Res:=
 (Sum.elim (fun x=>
 bif (decide (x.2.1<(x.2.2.1.length:Int)))then
 if 0≤x.2.1∧x.2.1<(x.2.2.1.length:Int)then
 bif (hasD x.2.2.2.1 x.2.1.toNat)then
 none
 else
 vmg (x.2.2.1.getD x.2.1.toNat (Ty.zero tTxn)) x.2.2.2.2 (fun y4=>
 bif (!y4.1)then
 if 0≤x.1∧x.1<(x.2.2.1.length:Int)then
 k (.inl (.inr ((IntKind.wrap .i64 (x.1+1)),(IntKind.wrap .i64 (x.2.1+1)),(x.2.2.1.set x.1.toNat (x.2.2.1.getD x.2.1.toNat (Ty.zero tTxn))),(x.2.1.toNat::(x.2.1.toNat::(delD x.1.toNat x.2.2.2.1))),y4.2)))
 else none
 else
 k (.inl (.inl (x.1,(IntKind.wrap .i64 (x.2.1+1)),x.2.2.1,x.2.2.2.1,y4.2))))
 else none
 else
 k (.inr (.inl (x.1,x.2.1,x.2.2.1,x.2.2.2.1,x.2.2.2.2)))) (fun x=>
 bif (decide (x.2.1<(x.2.2.1.length:Int)))then
 if 0≤x.2.1∧x.2.1<(x.2.2.1.length:Int)then
 bif (hasD x.2.2.2.1 x.2.1.toNat)then
 none
 else
 vmg (x.2.2.1.getD x.2.1.toNat (Ty.zero tTxn)) x.2.2.2.2 (fun y5=>
 bif (!y5.1)then
 if 0≤x.1∧x.1<(x.2.2.1.length:Int)then
 k (.inl (.inr ((IntKind.wrap .i64 (x.1+1)),(IntKind.wrap .i64 (x.2.1+1)),(x.2.2.1.set x.1.toNat (x.2.2.1.getD x.2.1.toNat (Ty.zero tTxn))),(x.2.1.toNat::(x.2.1.toNat::(delD x.1.toNat x.2.2.2.1))),y5.2)))
 else none
 else
 k (.inl (.inr (x.1,(IntKind.wrap .i64 (x.2.1+1)),x.2.2.1,x.2.2.2.1,y5.2))))
 else none
 else
 k (.inr (.inr (x.1,x.2.1,x.2.2.1,x.2.2.2.1,x.2.2.2.2))))) x
instance n44n_bp0 (x:((Int×Int×(List dTxn)×(List Nat)×ByteArray)⊕(Int×Int×(List dTxn)×(List Nat)×ByteArray))):ParC (vd8 x):=by
 unfold vd8
 rcases x with x|x
 ·simp only [Sum.elim_inl]
  infer_instance
 ·simp only [Sum.elim_inr]
  (try dsimp only)
  infer_instance
def vx0 (a0:(List dTxn))(a1:ByteArray)(k:(((List dTxn)×ByteArray)⊕(ByteArray×(List dTxn)))→Option Res):Option Res:=
 vnl a0 a1 (fun y1=>
 bif (y1.1==(-1:Int))then
 k (.inl (a0,y1.2))
 else
 vad vd8 Fuel (.inl (y1.1,(IntKind.wrap .i64 (y1.1+1)),a0,([]:List Nat),y1.2)) (Sum.elim (fun z2=>
 if 0≤z2.1∧z2.1≤(z2.2.2.1.length:Int)then
 if 0≤z2.1∧z2.1≤((z2.2.2.1.take z2.1.toNat++List.replicate (z2.2.2.1.length-z2.1.toNat) (Ty.zero tTxn)).length:Int)then
 bif (geD z2.1.toNat (loD z2.1.toNat z2.2.2.2.1))then
 k (.inr (z2.2.2.2.2,((z2.2.2.1.take z2.1.toNat++List.replicate (z2.2.2.1.length-z2.1.toNat) (Ty.zero tTxn)).take z2.1.toNat)))
 else
 none
 else none
 else none) (fun z3=>
 if 0≤z3.1∧z3.1≤(z3.2.2.1.length:Int)then
 if 0≤z3.1∧z3.1≤((z3.2.2.1.take z3.1.toNat++List.replicate (z3.2.2.1.length-z3.1.toNat) (Ty.zero tTxn)).length:Int)then
 bif (geD z3.1.toNat (loD z3.1.toNat z3.2.2.2.1))then
 k (.inr (z3.2.2.2.2,((z3.2.2.1.take z3.1.toNat++List.replicate (z3.2.2.1.length-z3.1.toNat) (Ty.zero tTxn)).take z3.1.toNat)))
 else
 none
 else none
 else none)))
def vq6:=shut vx0
theorem v12:vq6=vx0:=vaj _
instance n44n_p (a0:(List dTxn))(a1:ByteArray):ParC (vq6 a0 a1):=by rw [v12];unfold vx0;(try dsimp only);exact⟨((n45n_p _ _).p.bind fun y1=>(vbi (vay _) ((vsj (fun x=>(n44n_bp0 x).p) _ _).bind2 (fun z2=>(vdd (vdd (vbi (vay _) vbs) vbs) vbs)) (fun z3=>(vdd (vdd (vbi (vay _) vbs) vbs) vbs)))))⟩
def vyx (a0:vdk)(a1:ByteArray)(k:q18T→Option Res):Option Res:=
 vuk a0 (fun y1=>
 vq6 y1.2.2.2.2 a1 (Sum.elim (fun y2=>
 k (y1.1,y1.2.1,y1.2.2.1,y1.2.2.2.1,y2.1)) (fun y3=>
 k (y1.1,y1.2.1,y1.2.2.1,y1.2.2.2.1,y3.2))))
def vmb:=shut vyx
theorem v25:vmb=vyx:=vaj _
instance n00n_p (a0:vdk)(a1:ByteArray):ParC (vmb a0 a1):=by rw [v25];unfold vyx;(try dsimp only);infer_instance
def vzf (a0:vaa)(a1:vaa)(k:Bool→Option Res):Option Res:=
 bif (!(vba a0.1 a1.1))then
 k false
 else
 bif (!(vba a0.2.1 a1.2.1))then
 k false
 else
 bif (!(a0.2.2.1==a1.2.2.1))then
 k false
 else
 bif (a0.2.2.2 != a1.2.2.2)then
 k false
 else
 k true
def vqb:=shut vzf
theorem v4g:vqb=vzf:=vaj _
instance n11n_p (a0:vaa)(a1:vaa):ParC (vqb a0 a1):=by rw [v4g];unfold vzf;(try dsimp only);infer_instance
def vg1 (x:q8T)(k:q8T⊕(q8T⊕q8T)→Option Res):Option Res:=
 bif (decide (x.2.2.2<(x.1.length:Int)))then
 if 0≤x.2.2.2∧x.2.2.2<(x.1.length:Int)then
 if 0≤x.2.2.2∧x.2.2.2<(x.2.1.length:Int)then
 vqb (rd (Ty.zero tVersion) x.1 x.2.2.2) (rd (Ty.zero tVersion) x.2.1 x.2.2.2) (fun y3=>
 bif (!y3)then
 k (.inr (.inl (x.1,x.2.1,false,x.2.2.2)))
 else
 k (.inl (x.1,x.2.1,x.2.2.1,(IntKind.wrap .i64 (x.2.2.2+1)))))
 else none
 else none
 else
 k (.inr (.inr (x.1,x.2.1,x.2.2.1,x.2.2.2)))
instance n12n_bp0 (x:q8T):ParC (vg1 x):=by unfold vg1;(try dsimp only);infer_instance
def vyr (a0:(List vaa))(a1:(List vaa))(k:Bool→Option Res):Option Res:=
 bif ((a0.length:Int) != (a1.length:Int))then
 k false
 else
 vad vg1 Fuel (a0,a1,false,0) (Sum.elim (fun z1=>
 k z1.2.2.1) (fun _=>
 k true))
def vqp:=shut vyr
theorem v4q:vqp=vyr:=vaj _
instance n12n_p (a0:(List vaa))(a1:(List vaa)):ParC (vqp a0 a1):=by rw [v4q];unfold vyr;(try dsimp only);infer_instance
def vx7 (a0:vak)(a1:vak)(k:Bool→Option Res):Option Res:=
 bif (!(vba a0.1 a1.1))then
 k false
 else
 bif (!(vba a0.2 a1.2))then
 k false
 else
 k true
def vrm:=shut vx7
theorem v1x:vrm=vx7:=vaj _
instance n07n_p (a0:vak)(a1:vak):ParC (vrm a0 a1):=by rw [v1x];unfold vx7;(try dsimp only);infer_instance
def vh4 (x:q0T)(k:q0T⊕(q0T⊕q0T)→Option Res):Option Res:=
 bif (decide (x.2.2.2<(x.1.length:Int)))then
 if 0≤x.2.2.2∧x.2.2.2<(x.1.length:Int)then
 if 0≤x.2.2.2∧x.2.2.2<(x.2.1.length:Int)then
 vrm (rd (Ty.zero tRange) x.1 x.2.2.2) (rd (Ty.zero tRange) x.2.1 x.2.2.2) (fun y3=>
 bif (!y3)then
 k (.inr (.inl (x.1,x.2.1,false,x.2.2.2)))
 else
 k (.inl (x.1,x.2.1,x.2.2.1,(IntKind.wrap .i64 (x.2.2.2+1)))))
 else none
 else none
 else
 k (.inr (.inr (x.1,x.2.1,x.2.2.1,x.2.2.2)))
instance n08n_bp0 (x:q0T):ParC (vh4 x):=by unfold vh4;(try dsimp only);infer_instance
def vys (a0:(List vak))(a1:(List vak))(k:Bool→Option Res):Option Res:=
 bif ((a0.length:Int) != (a1.length:Int))then
 k false
 else
 vad vh4 Fuel (a0,a1,false,0) (Sum.elim (fun z1=>
 k z1.2.2.1) (fun _=>
 k true))
def vrp:=shut vys
theorem v1q:vrp=vys:=vaj _
instance n08n_p (a0:(List vak))(a1:(List vak)):ParC (vrp a0 a1):=by rw [v1q];unfold vys;(try dsimp only);infer_instance
def vzy (a0:vai)(a1:vai)(k:Bool→Option Res):Option Res:=
 bif (!(vba a0.1 a1.1))then
 k false
 else
 bif (!(vba a0.2.1 a1.2.1))then
 k false
 else
 bif (!(a0.2.2==a1.2.2))then
 k false
 else
 k true
def vq0:=shut vzy
theorem v1v:vq0=vzy:=vaj _
instance n13n_p (a0:vai)(a1:vai):ParC (vq0 a0 a1):=by rw [v1v];unfold vzy;(try dsimp only);infer_instance
def vg2 (x:q11T)(k:q11T⊕(q11T⊕q11T)→Option Res):Option Res:=
 bif (decide (x.2.2.2<(x.1.length:Int)))then
 if 0≤x.2.2.2∧x.2.2.2<(x.1.length:Int)then
 if 0≤x.2.2.2∧x.2.2.2<(x.2.1.length:Int)then
 vq0 (rd (Ty.zero tWrite) x.1 x.2.2.2) (rd (Ty.zero tWrite) x.2.1 x.2.2.2) (fun y3=>
 bif (!y3)then
 k (.inr (.inl (x.1,x.2.1,false,x.2.2.2)))
 else
 k (.inl (x.1,x.2.1,x.2.2.1,(IntKind.wrap .i64 (x.2.2.2+1)))))
 else none
 else none
 else
 k (.inr (.inr (x.1,x.2.1,x.2.2.1,x.2.2.2)))
instance n14n_bp0 (x:q11T):ParC (vg2 x):=by unfold vg2;(try dsimp only);infer_instance
def vx3 (a0:(List vai))(a1:(List vai))(k:Bool→Option Res):Option Res:=
 bif ((a0.length:Int) != (a1.length:Int))then
 k false
 else
 vad vg2 Fuel (a0,a1,false,0) (Sum.elim (fun z1=>
 k z1.2.2.1) (fun _=>
 k true))
def vq3:=shut vx3
theorem v3b:vq3=vx3:=vaj _
instance n14n_p (a0:(List vai))(a1:(List vai)):ParC (vq3 a0 a1):=by rw [v3b];unfold vx3;(try dsimp only);infer_instance
def vy2 (a0:dTxn)(a1:dTxn)(k:Bool→Option Res):Option Res:=
 bif (a0.1 != a1.1)then
 k false
 else
 bif (a0.2.1 != a1.2.1)then
 k false
 else
 bif (a0.2.2.1 != a1.2.2.1)then
 k false
 else
 bif (a0.2.2.2.1 != a1.2.2.2.1)then
 k false
 else
 vrp a0.2.2.2.2.1 a1.2.2.2.2.1 (fun y1=>
 bif (!y1)then
 k false
 else
 vq3 a0.2.2.2.2.2.1 a1.2.2.2.2.2.1 (fun y2=>
 bif (!y2)then
 k false
 else
 bif (!(a0.2.2.2.2.2.2.1==a1.2.2.2.2.2.2.1))then
 k false
 else
 bif (!(vba a0.2.2.2.2.2.2.2 a1.2.2.2.2.2.2.2))then
 k false
 else
 k true))
def vpq:=shut vy2
theorem v2d:vpq=vy2:=vaj _
instance n09n_p (a0:dTxn)(a1:dTxn):ParC (vpq a0 a1):=by rw [v2d];unfold vy2;(try dsimp only);infer_instance
def vg3 (x:q3T)(k:q3T⊕(q3T⊕q3T)→Option Res):Option Res:=
 bif (decide (x.2.2.2<(x.1.length:Int)))then
 if 0≤x.2.2.2∧x.2.2.2<(x.1.length:Int)then
 if 0≤x.2.2.2∧x.2.2.2<(x.2.1.length:Int)then
 vpq (rd (Ty.zero tTxn) x.1 x.2.2.2) (rd (Ty.zero tTxn) x.2.1 x.2.2.2) (fun y3=>
 bif (!y3)then
 k (.inr (.inl (x.1,x.2.1,false,x.2.2.2)))
 else
 k (.inl (x.1,x.2.1,x.2.2.1,(IntKind.wrap .i64 (x.2.2.2+1)))))
 else none
 else none
 else
 k (.inr (.inr (x.1,x.2.1,x.2.2.1,x.2.2.2)))
instance n10n_bp0 (x:q3T):ParC (vg3 x):=by unfold vg3;(try dsimp only);infer_instance
def vzj (a0:(List dTxn))(a1:(List dTxn))(k:Bool→Option Res):Option Res:=
 bif ((a0.length:Int) != (a1.length:Int))then
 k false
 else
 vad vg3 Fuel (a0,a1,false,0) (Sum.elim (fun z1=>
 k z1.2.2.1) (fun _=>
 k true))
def vmn:=shut vzj
theorem v2g:vmn=vzj:=vaj _
instance n10n_p (a0:(List dTxn))(a1:(List dTxn)):ParC (vmn a0 a1):=by rw [v2g];unfold vzj;(try dsimp only);infer_instance
def vv7 (a0:vdk)(a1:vdk)(k:Bool→Option Res):Option Res:=
 vqp a0.1 a1.1 (fun y1=>
 bif (!y1)then
 k false
 else
 vmn a0.2.1 a1.2.1 (fun y2=>
 bif (!y2)then
 k false
 else
 vmn a0.2.2.1 a1.2.2.1 (fun y3=>
 bif (!y3)then
 k false
 else
 bif (a0.2.2.2.1 != a1.2.2.2.1)then
 k false
 else
 bif (a0.2.2.2.2 != a1.2.2.2.2)then
 k false
 else
 k true)))
def vel:=shut vv7
theorem vzt:vel=vv7:=vaj _
instance n06n_p (a0:vdk)(a1:vdk):ParC (vel a0 a1):=by rw [vzt];unfold vv7;(try dsimp only);infer_instance
def vjs (x:(Int×ByteArray))(k:(Int×ByteArray)⊕(Int×ByteArray)→Option Res):Option Res:=
 bif (decide (x.1>0))then
 if(vjk [(IntKind.wrap .u8 (IntKind.wrap .i64 ((48:Int)+(x.1.tmod (10:Int)))))]).size+x.2.size≤1099511627776 then
 k (.inl ((IntKind.wrap .i64 (x.1.tdiv (10:Int))),((vjk [(IntKind.wrap .u8 (IntKind.wrap .i64 ((48:Int)+(x.1.tmod (10:Int)))))])++x.2)))
 else none
 else
 k (.inr (x.1,x.2))
instance n22n_bp0 (x:(Int×ByteArray)):ParC (vjs x):=by unfold vjs;(try dsimp only);infer_instance
def vzw (a0:Int)(k:ByteArray→Option Res):Option Res:=
 bif (decide (a0≤0))then
 k (⟨#[109,48]⟩:ByteArray)
 else
 vad vjs Fuel (a0,(⟨#[]⟩:ByteArray)) (fun z1=>
 if(⟨#[109]⟩:ByteArray).size+z1.2.size≤1099511627776 then
 k ((⟨#[109]⟩:ByteArray)++z1.2)
 else none)
def vbq:=shut vzw
theorem v10:vbq=vzw:=vaj _
instance n22n_p (a0:Int):ParC (vbq a0):=by rw [v10];unfold vzw;(try dsimp only);infer_instance
def vh3 (x:(Int×Int×(List vaa)))(k:(Int×Int×(List vaa))⊕(Int×Int×(List vaa))→Option Res):Option Res:=
 let t0:=(x.2.2.getD x.2.1.toNat (Ty.zero tVersion))
 let t1:=(IntKind.wrap .i64 ((IntKind.wrap .i64 (x.1+(1:Int)))+(1:Int)))
 let t2:=((t1.tmod (3:Int))==(0:Int))
 bif (decide (x.2.1<(x.2.2.length:Int)))then
 vbq x.1 (fun y2=>
 if 0≤x.2.1∧x.2.1<(x.2.2.length:Int)then
 vbq (IntKind.wrap .i64 (x.1+1)) (fun y3=>
 if 0≤x.2.1∧x.2.1<((x.2.2.set x.2.1.toNat (y2,t0.2)).length:Int)then
 if 0≤x.2.1∧x.2.1<(((x.2.2.set x.2.1.toNat (y2,t0.2)).set x.2.1.toNat (((x.2.2.set x.2.1.toNat (y2,t0.2)).getD x.2.1.toNat (Ty.zero tVersion)).1,(y3,((x.2.2.set x.2.1.toNat (y2,t0.2)).getD x.2.1.toNat (Ty.zero tVersion)).2.2))).length:Int)then
 if 0≤x.2.1∧x.2.1<((((x.2.2.set x.2.1.toNat (y2,t0.2)).set x.2.1.toNat (((x.2.2.set x.2.1.toNat (y2,t0.2)).getD x.2.1.toNat (Ty.zero tVersion)).1,(y3,((x.2.2.set x.2.1.toNat (y2,t0.2)).getD x.2.1.toNat (Ty.zero tVersion)).2.2))).set x.2.1.toNat ((((x.2.2.set x.2.1.toNat (y2,t0.2)).set x.2.1.toNat (((x.2.2.set x.2.1.toNat (y2,t0.2)).getD x.2.1.toNat (Ty.zero tVersion)).1,(y3,((x.2.2.set x.2.1.toNat (y2,t0.2)).getD x.2.1.toNat (Ty.zero tVersion)).2.2))).getD x.2.1.toNat (Ty.zero tVersion)).1,((((x.2.2.set x.2.1.toNat (y2,t0.2)).set x.2.1.toNat (((x.2.2.set x.2.1.toNat (y2,t0.2)).getD x.2.1.toNat (Ty.zero tVersion)).1,(y3,((x.2.2.set x.2.1.toNat (y2,t0.2)).getD x.2.1.toNat (Ty.zero tVersion)).2.2))).getD x.2.1.toNat (Ty.zero tVersion)).2.1,(t2,(((x.2.2.set x.2.1.toNat (y2,t0.2)).set x.2.1.toNat (((x.2.2.set x.2.1.toNat (y2,t0.2)).getD x.2.1.toNat (Ty.zero tVersion)).1,(y3,((x.2.2.set x.2.1.toNat (y2,t0.2)).getD x.2.1.toNat (Ty.zero tVersion)).2.2))).getD x.2.1.toNat (Ty.zero tVersion)).2.2.2)))).length:Int)then
 k (.inl ((IntKind.wrap .i64 ((IntKind.wrap .i64 (t1+1))+1)),(IntKind.wrap .i64 (x.2.1+1)),((((x.2.2.set x.2.1.toNat (y2,t0.2)).set x.2.1.toNat (((x.2.2.set x.2.1.toNat (y2,t0.2)).getD x.2.1.toNat (Ty.zero tVersion)).1,(y3,((x.2.2.set x.2.1.toNat (y2,t0.2)).getD x.2.1.toNat (Ty.zero tVersion)).2.2))).set x.2.1.toNat ((((x.2.2.set x.2.1.toNat (y2,t0.2)).set x.2.1.toNat (((x.2.2.set x.2.1.toNat (y2,t0.2)).getD x.2.1.toNat (Ty.zero tVersion)).1,(y3,((x.2.2.set x.2.1.toNat (y2,t0.2)).getD x.2.1.toNat (Ty.zero tVersion)).2.2))).getD x.2.1.toNat (Ty.zero tVersion)).1,((((x.2.2.set x.2.1.toNat (y2,t0.2)).set x.2.1.toNat (((x.2.2.set x.2.1.toNat (y2,t0.2)).getD x.2.1.toNat (Ty.zero tVersion)).1,(y3,((x.2.2.set x.2.1.toNat (y2,t0.2)).getD x.2.1.toNat (Ty.zero tVersion)).2.2))).getD x.2.1.toNat (Ty.zero tVersion)).2.1,(t2,(((x.2.2.set x.2.1.toNat (y2,t0.2)).set x.2.1.toNat (((x.2.2.set x.2.1.toNat (y2,t0.2)).getD x.2.1.toNat (Ty.zero tVersion)).1,(y3,((x.2.2.set x.2.1.toNat (y2,t0.2)).getD x.2.1.toNat (Ty.zero tVersion)).2.2))).getD x.2.1.toNat (Ty.zero tVersion)).2.2.2)))).set x.2.1.toNat (((((x.2.2.set x.2.1.toNat (y2,t0.2)).set x.2.1.toNat (((x.2.2.set x.2.1.toNat (y2,t0.2)).getD x.2.1.toNat (Ty.zero tVersion)).1,(y3,((x.2.2.set x.2.1.toNat (y2,t0.2)).getD x.2.1.toNat (Ty.zero tVersion)).2.2))).set x.2.1.toNat ((((x.2.2.set x.2.1.toNat (y2,t0.2)).set x.2.1.toNat (((x.2.2.set x.2.1.toNat (y2,t0.2)).getD x.2.1.toNat (Ty.zero tVersion)).1,(y3,((x.2.2.set x.2.1.toNat (y2,t0.2)).getD x.2.1.toNat (Ty.zero tVersion)).2.2))).getD x.2.1.toNat (Ty.zero tVersion)).1,((((x.2.2.set x.2.1.toNat (y2,t0.2)).set x.2.1.toNat (((x.2.2.set x.2.1.toNat (y2,t0.2)).getD x.2.1.toNat (Ty.zero tVersion)).1,(y3,((x.2.2.set x.2.1.toNat (y2,t0.2)).getD x.2.1.toNat (Ty.zero tVersion)).2.2))).getD x.2.1.toNat (Ty.zero tVersion)).2.1,(t2,(((x.2.2.set x.2.1.toNat (y2,t0.2)).set x.2.1.toNat (((x.2.2.set x.2.1.toNat (y2,t0.2)).getD x.2.1.toNat (Ty.zero tVersion)).1,(y3,((x.2.2.set x.2.1.toNat (y2,t0.2)).getD x.2.1.toNat (Ty.zero tVersion)).2.2))).getD x.2.1.toNat (Ty.zero tVersion)).2.2.2)))).getD x.2.1.toNat (Ty.zero tVersion)).1,(((((x.2.2.set x.2.1.toNat (y2,t0.2)).set x.2.1.toNat (((x.2.2.set x.2.1.toNat (y2,t0.2)).getD x.2.1.toNat (Ty.zero tVersion)).1,(y3,((x.2.2.set x.2.1.toNat (y2,t0.2)).getD x.2.1.toNat (Ty.zero tVersion)).2.2))).set x.2.1.toNat ((((x.2.2.set x.2.1.toNat (y2,t0.2)).set x.2.1.toNat (((x.2.2.set x.2.1.toNat (y2,t0.2)).getD x.2.1.toNat (Ty.zero tVersion)).1,(y3,((x.2.2.set x.2.1.toNat (y2,t0.2)).getD x.2.1.toNat (Ty.zero tVersion)).2.2))).getD x.2.1.toNat (Ty.zero tVersion)).1,((((x.2.2.set x.2.1.toNat (y2,t0.2)).set x.2.1.toNat (((x.2.2.set x.2.1.toNat (y2,t0.2)).getD x.2.1.toNat (Ty.zero tVersion)).1,(y3,((x.2.2.set x.2.1.toNat (y2,t0.2)).getD x.2.1.toNat (Ty.zero tVersion)).2.2))).getD x.2.1.toNat (Ty.zero tVersion)).2.1,(t2,(((x.2.2.set x.2.1.toNat (y2,t0.2)).set x.2.1.toNat (((x.2.2.set x.2.1.toNat (y2,t0.2)).getD x.2.1.toNat (Ty.zero tVersion)).1,(y3,((x.2.2.set x.2.1.toNat (y2,t0.2)).getD x.2.1.toNat (Ty.zero tVersion)).2.2))).getD x.2.1.toNat (Ty.zero tVersion)).2.2.2)))).getD x.2.1.toNat (Ty.zero tVersion)).2.1,(((((x.2.2.set x.2.1.toNat (y2,t0.2)).set x.2.1.toNat (((x.2.2.set x.2.1.toNat (y2,t0.2)).getD x.2.1.toNat (Ty.zero tVersion)).1,(y3,((x.2.2.set x.2.1.toNat (y2,t0.2)).getD x.2.1.toNat (Ty.zero tVersion)).2.2))).set x.2.1.toNat ((((x.2.2.set x.2.1.toNat (y2,t0.2)).set x.2.1.toNat (((x.2.2.set x.2.1.toNat (y2,t0.2)).getD x.2.1.toNat (Ty.zero tVersion)).1,(y3,((x.2.2.set x.2.1.toNat (y2,t0.2)).getD x.2.1.toNat (Ty.zero tVersion)).2.2))).getD x.2.1.toNat (Ty.zero tVersion)).1,((((x.2.2.set x.2.1.toNat (y2,t0.2)).set x.2.1.toNat (((x.2.2.set x.2.1.toNat (y2,t0.2)).getD x.2.1.toNat (Ty.zero tVersion)).1,(y3,((x.2.2.set x.2.1.toNat (y2,t0.2)).getD x.2.1.toNat (Ty.zero tVersion)).2.2))).getD x.2.1.toNat (Ty.zero tVersion)).2.1,(t2,(((x.2.2.set x.2.1.toNat (y2,t0.2)).set x.2.1.toNat (((x.2.2.set x.2.1.toNat (y2,t0.2)).getD x.2.1.toNat (Ty.zero tVersion)).1,(y3,((x.2.2.set x.2.1.toNat (y2,t0.2)).getD x.2.1.toNat (Ty.zero tVersion)).2.2))).getD x.2.1.toNat (Ty.zero tVersion)).2.2.2)))).getD x.2.1.toNat (Ty.zero tVersion)).2.2.1,(IntKind.wrap .i64 (t1+1))))))))
 else none
 else none
 else none)
 else none)
 else
 k (.inr (x.1,x.2.1,x.2.2))
instance n24n_bp0 (x:(Int×Int×(List vaa))):ParC (vh3 x):=by unfold vh3;(try dsimp only);infer_instance
def vyo (a0:Int)(a1:(List vaa))(k:(Int×(List vaa))→Option Res):Option Res:=
 vad vh3 Fuel (a0,0,a1) (fun z1=>
 k (z1.1,z1.2.2))
def vv5:=shut vyo
theorem v3v:vv5=vyo:=vaj _
instance n24n_p (a0:Int)(a1:(List vaa)):ParC (vv5 a0 a1):=by rw [v3v];unfold vyo;(try dsimp only);infer_instance
def vjm (x:(Int×Int×(List vak)))(k:(Int×Int×(List vak))⊕(Int×Int×(List vak))→Option Res):Option Res:=
 bif (decide (x.2.1<(x.2.2.length:Int)))then
 vbq x.1 (fun y2=>
 if 0≤x.2.1∧x.2.1<(x.2.2.length:Int)then
 vbq (IntKind.wrap .i64 (x.1+1)) (fun y3=>
 if 0≤x.2.1∧x.2.1<((x.2.2.set x.2.1.toNat (y2,(x.2.2.getD x.2.1.toNat (Ty.zero tRange)).2)).length:Int)then
 k (.inl ((IntKind.wrap .i64 ((IntKind.wrap .i64 (x.1+1))+1)),(IntKind.wrap .i64 (x.2.1+1)),((x.2.2.set x.2.1.toNat (y2,(x.2.2.getD x.2.1.toNat (Ty.zero tRange)).2)).set x.2.1.toNat (((x.2.2.set x.2.1.toNat (y2,(x.2.2.getD x.2.1.toNat (Ty.zero tRange)).2)).getD x.2.1.toNat (Ty.zero tRange)).1,y3))))
 else none)
 else none)
 else
 k (.inr (x.1,x.2.1,x.2.2))
instance n21n_bp0 (x:(Int×Int×(List vak))):ParC (vjm x):=by unfold vjm;(try dsimp only);infer_instance
def vzh (a0:Int)(a1:(List vak))(k:(Int×(List vak))→Option Res):Option Res:=
 vad vjm Fuel (a0,0,a1) (fun z1=>
 k (z1.1,z1.2.2))
def vuz:=shut vzh
theorem v3e:vuz=vzh:=vaj _
instance n21n_p (a0:Int)(a1:(List vak)):ParC (vuz a0 a1):=by rw [v3e];unfold vzh;(try dsimp only);infer_instance
def vjp (x:(Int×Int×(List vai)))(k:(Int×Int×(List vai))⊕(Int×Int×(List vai))→Option Res):Option Res:=
 let t0:=(x.2.2.getD x.2.1.toNat (Ty.zero tWrite))
 bif (decide (x.2.1<(x.2.2.length:Int)))then
 vbq x.1 (fun y2=>
 if 0≤x.2.1∧x.2.1<(x.2.2.length:Int)then
 vbq (IntKind.wrap .i64 (x.1+1)) (fun y3=>
 if 0≤x.2.1∧x.2.1<((x.2.2.set x.2.1.toNat (y2,t0.2)).length:Int)then
 if 0≤x.2.1∧x.2.1<(((x.2.2.set x.2.1.toNat (y2,t0.2)).set x.2.1.toNat (((x.2.2.set x.2.1.toNat (y2,t0.2)).getD x.2.1.toNat (Ty.zero tWrite)).1,(y3,((x.2.2.set x.2.1.toNat (y2,t0.2)).getD x.2.1.toNat (Ty.zero tWrite)).2.2))).length:Int)then
 k (.inl ((IntKind.wrap .i64 ((IntKind.wrap .i64 ((IntKind.wrap .i64 (x.1+1))+1))+1)),(IntKind.wrap .i64 (x.2.1+1)),(((x.2.2.set x.2.1.toNat (y2,t0.2)).set x.2.1.toNat (((x.2.2.set x.2.1.toNat (y2,t0.2)).getD x.2.1.toNat (Ty.zero tWrite)).1,(y3,((x.2.2.set x.2.1.toNat (y2,t0.2)).getD x.2.1.toNat (Ty.zero tWrite)).2.2))).set x.2.1.toNat ((((x.2.2.set x.2.1.toNat (y2,t0.2)).set x.2.1.toNat (((x.2.2.set x.2.1.toNat (y2,t0.2)).getD x.2.1.toNat (Ty.zero tWrite)).1,(y3,((x.2.2.set x.2.1.toNat (y2,t0.2)).getD x.2.1.toNat (Ty.zero tWrite)).2.2))).getD x.2.1.toNat (Ty.zero tWrite)).1,((((x.2.2.set x.2.1.toNat (y2,t0.2)).set x.2.1.toNat (((x.2.2.set x.2.1.toNat (y2,t0.2)).getD x.2.1.toNat (Ty.zero tWrite)).1,(y3,((x.2.2.set x.2.1.toNat (y2,t0.2)).getD x.2.1.toNat (Ty.zero tWrite)).2.2))).getD x.2.1.toNat (Ty.zero tWrite)).2.1,(((IntKind.wrap .i64 ((IntKind.wrap .i64 (x.1+1))+1)).tmod (3:Int))==(0:Int)))))))
 else none
 else none)
 else none)
 else
 k (.inr (x.1,x.2.1,x.2.2))
instance n25n_bp0 (x:(Int×Int×(List vai))):ParC (vjp x):=by unfold vjp;(try dsimp only);infer_instance
def vzi (a0:Int)(a1:(List vai))(k:(Int×(List vai))→Option Res):Option Res:=
 vad vjp Fuel (a0,0,a1) (fun z1=>
 k (z1.1,z1.2.2))
def vu4:=shut vzi
theorem v3g:vu4=vzi:=vaj _
instance n25n_p (a0:Int)(a1:(List vai)):ParC (vu4 a0 a1):=by rw [v3g];unfold vzi;(try dsimp only);infer_instance
def vcz (x:(Int×Int×(List dTxn)))(k:(Int×Int×(List dTxn))→Option Res):Option Res:=
 k (x.1,(IntKind.wrap .i64 (x.2.1+1)),x.2.2)
instance n23n_jp5000003 (x:(Int×Int×(List dTxn))):ParC (vcz x):=by unfold vcz;(try dsimp only);infer_instance
def vcs (x:(Int×Int×(List dTxn)))(k:(Int×Int×(List dTxn))→Option Res):Option Res:=
 k ((IntKind.wrap .i64 (x.1+1)),x.2.1,x.2.2)
instance n23n_jp5000017 (x:(Int×Int×(List dTxn))):ParC (vcs x):=by unfold vcs;(try dsimp only);infer_instance
def vc5 (x:(Int×Int×(List dTxn)))(k:(Int×Int×(List dTxn))→Option Res):Option Res:=
 vbq (IntKind.wrap .i64 (x.1+1)) (fun y10=>
 if 0≤x.2.1∧x.2.1<(x.2.2.length:Int)then
 vcs ((IntKind.wrap .i64 (x.1+1)),x.2.1,(x.2.2.set x.2.1.toNat ((x.2.2.getD x.2.1.toNat (Ty.zero tTxn)).1,((x.2.2.getD x.2.1.toNat (Ty.zero tTxn)).2.1,((x.2.2.getD x.2.1.toNat (Ty.zero tTxn)).2.2.1,((x.2.2.getD x.2.1.toNat (Ty.zero tTxn)).2.2.2.1,((x.2.2.getD x.2.1.toNat (Ty.zero tTxn)).2.2.2.2.1,((x.2.2.getD x.2.1.toNat (Ty.zero tTxn)).2.2.2.2.2.1,((x.2.2.getD x.2.1.toNat (Ty.zero tTxn)).2.2.2.2.2.2.1,y10))))))))) (fun z11=>
 k (z11.1,z11.2.1,z11.2.2))
 else none)
instance n23n_jp5000015 (x:(Int×Int×(List dTxn))):ParC (vc5 x):=by unfold vc5;(try dsimp only);infer_instance
def vc6 (x:(Int×Int×(List dTxn)))(k:(Int×Int×(List dTxn))→Option Res):Option Res:=
 let t0:=(x.2.2.getD x.2.1.toNat (Ty.zero tTxn))
 if 0≤x.2.1∧x.2.1<(x.2.2.length:Int)then
 vuz (IntKind.wrap .i64 (x.1+1)) (t0.2.2.2.2.1) (fun y7=>
 if 0≤x.2.1∧x.2.1<((x.2.2.set x.2.1.toNat (t0.1,(t0.2.1,(t0.2.2.1,(t0.2.2.2.1,(y7.2,t0.2.2.2.2.2)))))).length:Int)then
 vu4 y7.1 (((x.2.2.set x.2.1.toNat (t0.1,(t0.2.1,(t0.2.2.1,(t0.2.2.2.1,(y7.2,t0.2.2.2.2.2)))))).getD x.2.1.toNat (Ty.zero tTxn)).2.2.2.2.2.1) (fun y8=>
 if 0≤x.2.1∧x.2.1<(((x.2.2.set x.2.1.toNat (t0.1,(t0.2.1,(t0.2.2.1,(t0.2.2.2.1,(y7.2,t0.2.2.2.2.2)))))).set x.2.1.toNat (((x.2.2.set x.2.1.toNat (t0.1,(t0.2.1,(t0.2.2.1,(t0.2.2.2.1,(y7.2,t0.2.2.2.2.2)))))).getD x.2.1.toNat (Ty.zero tTxn)).1,(((x.2.2.set x.2.1.toNat (t0.1,(t0.2.1,(t0.2.2.1,(t0.2.2.2.1,(y7.2,t0.2.2.2.2.2)))))).getD x.2.1.toNat (Ty.zero tTxn)).2.1,(((x.2.2.set x.2.1.toNat (t0.1,(t0.2.1,(t0.2.2.1,(t0.2.2.2.1,(y7.2,t0.2.2.2.2.2)))))).getD x.2.1.toNat (Ty.zero tTxn)).2.2.1,(((x.2.2.set x.2.1.toNat (t0.1,(t0.2.1,(t0.2.2.1,(t0.2.2.2.1,(y7.2,t0.2.2.2.2.2)))))).getD x.2.1.toNat (Ty.zero tTxn)).2.2.2.1,(((x.2.2.set x.2.1.toNat (t0.1,(t0.2.1,(t0.2.2.1,(t0.2.2.2.1,(y7.2,t0.2.2.2.2.2)))))).getD x.2.1.toNat (Ty.zero tTxn)).2.2.2.2.1,(y8.2,((x.2.2.set x.2.1.toNat (t0.1,(t0.2.1,(t0.2.2.1,(t0.2.2.2.1,(y7.2,t0.2.2.2.2.2)))))).getD x.2.1.toNat (Ty.zero tTxn)).2.2.2.2.2.2))))))).length:Int)then
 vc5 (y8.1,x.2.1,(((x.2.2.set x.2.1.toNat (t0.1,(t0.2.1,(t0.2.2.1,(t0.2.2.2.1,(y7.2,t0.2.2.2.2.2)))))).set x.2.1.toNat (((x.2.2.set x.2.1.toNat (t0.1,(t0.2.1,(t0.2.2.1,(t0.2.2.2.1,(y7.2,t0.2.2.2.2.2)))))).getD x.2.1.toNat (Ty.zero tTxn)).1,(((x.2.2.set x.2.1.toNat (t0.1,(t0.2.1,(t0.2.2.1,(t0.2.2.2.1,(y7.2,t0.2.2.2.2.2)))))).getD x.2.1.toNat (Ty.zero tTxn)).2.1,(((x.2.2.set x.2.1.toNat (t0.1,(t0.2.1,(t0.2.2.1,(t0.2.2.2.1,(y7.2,t0.2.2.2.2.2)))))).getD x.2.1.toNat (Ty.zero tTxn)).2.2.1,(((x.2.2.set x.2.1.toNat (t0.1,(t0.2.1,(t0.2.2.1,(t0.2.2.2.1,(y7.2,t0.2.2.2.2.2)))))).getD x.2.1.toNat (Ty.zero tTxn)).2.2.2.1,(((x.2.2.set x.2.1.toNat (t0.1,(t0.2.1,(t0.2.2.1,(t0.2.2.2.1,(y7.2,t0.2.2.2.2.2)))))).getD x.2.1.toNat (Ty.zero tTxn)).2.2.2.2.1,(y8.2,((x.2.2.set x.2.1.toNat (t0.1,(t0.2.1,(t0.2.2.1,(t0.2.2.2.1,(y7.2,t0.2.2.2.2.2)))))).getD x.2.1.toNat (Ty.zero tTxn)).2.2.2.2.2.2))))))).set x.2.1.toNat ((((x.2.2.set x.2.1.toNat (t0.1,(t0.2.1,(t0.2.2.1,(t0.2.2.2.1,(y7.2,t0.2.2.2.2.2)))))).set x.2.1.toNat (((x.2.2.set x.2.1.toNat (t0.1,(t0.2.1,(t0.2.2.1,(t0.2.2.2.1,(y7.2,t0.2.2.2.2.2)))))).getD x.2.1.toNat (Ty.zero tTxn)).1,(((x.2.2.set x.2.1.toNat (t0.1,(t0.2.1,(t0.2.2.1,(t0.2.2.2.1,(y7.2,t0.2.2.2.2.2)))))).getD x.2.1.toNat (Ty.zero tTxn)).2.1,(((x.2.2.set x.2.1.toNat (t0.1,(t0.2.1,(t0.2.2.1,(t0.2.2.2.1,(y7.2,t0.2.2.2.2.2)))))).getD x.2.1.toNat (Ty.zero tTxn)).2.2.1,(((x.2.2.set x.2.1.toNat (t0.1,(t0.2.1,(t0.2.2.1,(t0.2.2.2.1,(y7.2,t0.2.2.2.2.2)))))).getD x.2.1.toNat (Ty.zero tTxn)).2.2.2.1,(((x.2.2.set x.2.1.toNat (t0.1,(t0.2.1,(t0.2.2.1,(t0.2.2.2.1,(y7.2,t0.2.2.2.2.2)))))).getD x.2.1.toNat (Ty.zero tTxn)).2.2.2.2.1,(y8.2,((x.2.2.set x.2.1.toNat (t0.1,(t0.2.1,(t0.2.2.1,(t0.2.2.2.1,(y7.2,t0.2.2.2.2.2)))))).getD x.2.1.toNat (Ty.zero tTxn)).2.2.2.2.2.2))))))).getD x.2.1.toNat (Ty.zero tTxn)).1,((((x.2.2.set x.2.1.toNat (t0.1,(t0.2.1,(t0.2.2.1,(t0.2.2.2.1,(y7.2,t0.2.2.2.2.2)))))).set x.2.1.toNat (((x.2.2.set x.2.1.toNat (t0.1,(t0.2.1,(t0.2.2.1,(t0.2.2.2.1,(y7.2,t0.2.2.2.2.2)))))).getD x.2.1.toNat (Ty.zero tTxn)).1,(((x.2.2.set x.2.1.toNat (t0.1,(t0.2.1,(t0.2.2.1,(t0.2.2.2.1,(y7.2,t0.2.2.2.2.2)))))).getD x.2.1.toNat (Ty.zero tTxn)).2.1,(((x.2.2.set x.2.1.toNat (t0.1,(t0.2.1,(t0.2.2.1,(t0.2.2.2.1,(y7.2,t0.2.2.2.2.2)))))).getD x.2.1.toNat (Ty.zero tTxn)).2.2.1,(((x.2.2.set x.2.1.toNat (t0.1,(t0.2.1,(t0.2.2.1,(t0.2.2.2.1,(y7.2,t0.2.2.2.2.2)))))).getD x.2.1.toNat (Ty.zero tTxn)).2.2.2.1,(((x.2.2.set x.2.1.toNat (t0.1,(t0.2.1,(t0.2.2.1,(t0.2.2.2.1,(y7.2,t0.2.2.2.2.2)))))).getD x.2.1.toNat (Ty.zero tTxn)).2.2.2.2.1,(y8.2,((x.2.2.set x.2.1.toNat (t0.1,(t0.2.1,(t0.2.2.1,(t0.2.2.2.1,(y7.2,t0.2.2.2.2.2)))))).getD x.2.1.toNat (Ty.zero tTxn)).2.2.2.2.2.2))))))).getD x.2.1.toNat (Ty.zero tTxn)).2.1,((((x.2.2.set x.2.1.toNat (t0.1,(t0.2.1,(t0.2.2.1,(t0.2.2.2.1,(y7.2,t0.2.2.2.2.2)))))).set x.2.1.toNat (((x.2.2.set x.2.1.toNat (t0.1,(t0.2.1,(t0.2.2.1,(t0.2.2.2.1,(y7.2,t0.2.2.2.2.2)))))).getD x.2.1.toNat (Ty.zero tTxn)).1,(((x.2.2.set x.2.1.toNat (t0.1,(t0.2.1,(t0.2.2.1,(t0.2.2.2.1,(y7.2,t0.2.2.2.2.2)))))).getD x.2.1.toNat (Ty.zero tTxn)).2.1,(((x.2.2.set x.2.1.toNat (t0.1,(t0.2.1,(t0.2.2.1,(t0.2.2.2.1,(y7.2,t0.2.2.2.2.2)))))).getD x.2.1.toNat (Ty.zero tTxn)).2.2.1,(((x.2.2.set x.2.1.toNat (t0.1,(t0.2.1,(t0.2.2.1,(t0.2.2.2.1,(y7.2,t0.2.2.2.2.2)))))).getD x.2.1.toNat (Ty.zero tTxn)).2.2.2.1,(((x.2.2.set x.2.1.toNat (t0.1,(t0.2.1,(t0.2.2.1,(t0.2.2.2.1,(y7.2,t0.2.2.2.2.2)))))).getD x.2.1.toNat (Ty.zero tTxn)).2.2.2.2.1,(y8.2,((x.2.2.set x.2.1.toNat (t0.1,(t0.2.1,(t0.2.2.1,(t0.2.2.2.1,(y7.2,t0.2.2.2.2.2)))))).getD x.2.1.toNat (Ty.zero tTxn)).2.2.2.2.2.2))))))).getD x.2.1.toNat (Ty.zero tTxn)).2.2.1,((((x.2.2.set x.2.1.toNat (t0.1,(t0.2.1,(t0.2.2.1,(t0.2.2.2.1,(y7.2,t0.2.2.2.2.2)))))).set x.2.1.toNat (((x.2.2.set x.2.1.toNat (t0.1,(t0.2.1,(t0.2.2.1,(t0.2.2.2.1,(y7.2,t0.2.2.2.2.2)))))).getD x.2.1.toNat (Ty.zero tTxn)).1,(((x.2.2.set x.2.1.toNat (t0.1,(t0.2.1,(t0.2.2.1,(t0.2.2.2.1,(y7.2,t0.2.2.2.2.2)))))).getD x.2.1.toNat (Ty.zero tTxn)).2.1,(((x.2.2.set x.2.1.toNat (t0.1,(t0.2.1,(t0.2.2.1,(t0.2.2.2.1,(y7.2,t0.2.2.2.2.2)))))).getD x.2.1.toNat (Ty.zero tTxn)).2.2.1,(((x.2.2.set x.2.1.toNat (t0.1,(t0.2.1,(t0.2.2.1,(t0.2.2.2.1,(y7.2,t0.2.2.2.2.2)))))).getD x.2.1.toNat (Ty.zero tTxn)).2.2.2.1,(((x.2.2.set x.2.1.toNat (t0.1,(t0.2.1,(t0.2.2.1,(t0.2.2.2.1,(y7.2,t0.2.2.2.2.2)))))).getD x.2.1.toNat (Ty.zero tTxn)).2.2.2.2.1,(y8.2,((x.2.2.set x.2.1.toNat (t0.1,(t0.2.1,(t0.2.2.1,(t0.2.2.2.1,(y7.2,t0.2.2.2.2.2)))))).getD x.2.1.toNat (Ty.zero tTxn)).2.2.2.2.2.2))))))).getD x.2.1.toNat (Ty.zero tTxn)).2.2.2.1,((((x.2.2.set x.2.1.toNat (t0.1,(t0.2.1,(t0.2.2.1,(t0.2.2.2.1,(y7.2,t0.2.2.2.2.2)))))).set x.2.1.toNat (((x.2.2.set x.2.1.toNat (t0.1,(t0.2.1,(t0.2.2.1,(t0.2.2.2.1,(y7.2,t0.2.2.2.2.2)))))).getD x.2.1.toNat (Ty.zero tTxn)).1,(((x.2.2.set x.2.1.toNat (t0.1,(t0.2.1,(t0.2.2.1,(t0.2.2.2.1,(y7.2,t0.2.2.2.2.2)))))).getD x.2.1.toNat (Ty.zero tTxn)).2.1,(((x.2.2.set x.2.1.toNat (t0.1,(t0.2.1,(t0.2.2.1,(t0.2.2.2.1,(y7.2,t0.2.2.2.2.2)))))).getD x.2.1.toNat (Ty.zero tTxn)).2.2.1,(((x.2.2.set x.2.1.toNat (t0.1,(t0.2.1,(t0.2.2.1,(t0.2.2.2.1,(y7.2,t0.2.2.2.2.2)))))).getD x.2.1.toNat (Ty.zero tTxn)).2.2.2.1,(((x.2.2.set x.2.1.toNat (t0.1,(t0.2.1,(t0.2.2.1,(t0.2.2.2.1,(y7.2,t0.2.2.2.2.2)))))).getD x.2.1.toNat (Ty.zero tTxn)).2.2.2.2.1,(y8.2,((x.2.2.set x.2.1.toNat (t0.1,(t0.2.1,(t0.2.2.1,(t0.2.2.2.1,(y7.2,t0.2.2.2.2.2)))))).getD x.2.1.toNat (Ty.zero tTxn)).2.2.2.2.2.2))))))).getD x.2.1.toNat (Ty.zero tTxn)).2.2.2.2.1,((((x.2.2.set x.2.1.toNat (t0.1,(t0.2.1,(t0.2.2.1,(t0.2.2.2.1,(y7.2,t0.2.2.2.2.2)))))).set x.2.1.toNat (((x.2.2.set x.2.1.toNat (t0.1,(t0.2.1,(t0.2.2.1,(t0.2.2.2.1,(y7.2,t0.2.2.2.2.2)))))).getD x.2.1.toNat (Ty.zero tTxn)).1,(((x.2.2.set x.2.1.toNat (t0.1,(t0.2.1,(t0.2.2.1,(t0.2.2.2.1,(y7.2,t0.2.2.2.2.2)))))).getD x.2.1.toNat (Ty.zero tTxn)).2.1,(((x.2.2.set x.2.1.toNat (t0.1,(t0.2.1,(t0.2.2.1,(t0.2.2.2.1,(y7.2,t0.2.2.2.2.2)))))).getD x.2.1.toNat (Ty.zero tTxn)).2.2.1,(((x.2.2.set x.2.1.toNat (t0.1,(t0.2.1,(t0.2.2.1,(t0.2.2.2.1,(y7.2,t0.2.2.2.2.2)))))).getD x.2.1.toNat (Ty.zero tTxn)).2.2.2.1,(((x.2.2.set x.2.1.toNat (t0.1,(t0.2.1,(t0.2.2.1,(t0.2.2.2.1,(y7.2,t0.2.2.2.2.2)))))).getD x.2.1.toNat (Ty.zero tTxn)).2.2.2.2.1,(y8.2,((x.2.2.set x.2.1.toNat (t0.1,(t0.2.1,(t0.2.2.1,(t0.2.2.2.1,(y7.2,t0.2.2.2.2.2)))))).getD x.2.1.toNat (Ty.zero tTxn)).2.2.2.2.2.2))))))).getD x.2.1.toNat (Ty.zero tTxn)).2.2.2.2.2.1,(((y8.1.tmod (3:Int))==(0:Int)),(((x.2.2.set x.2.1.toNat (t0.1,(t0.2.1,(t0.2.2.1,(t0.2.2.2.1,(y7.2,t0.2.2.2.2.2)))))).set x.2.1.toNat (((x.2.2.set x.2.1.toNat (t0.1,(t0.2.1,(t0.2.2.1,(t0.2.2.2.1,(y7.2,t0.2.2.2.2.2)))))).getD x.2.1.toNat (Ty.zero tTxn)).1,(((x.2.2.set x.2.1.toNat (t0.1,(t0.2.1,(t0.2.2.1,(t0.2.2.2.1,(y7.2,t0.2.2.2.2.2)))))).getD x.2.1.toNat (Ty.zero tTxn)).2.1,(((x.2.2.set x.2.1.toNat (t0.1,(t0.2.1,(t0.2.2.1,(t0.2.2.2.1,(y7.2,t0.2.2.2.2.2)))))).getD x.2.1.toNat (Ty.zero tTxn)).2.2.1,(((x.2.2.set x.2.1.toNat (t0.1,(t0.2.1,(t0.2.2.1,(t0.2.2.2.1,(y7.2,t0.2.2.2.2.2)))))).getD x.2.1.toNat (Ty.zero tTxn)).2.2.2.1,(((x.2.2.set x.2.1.toNat (t0.1,(t0.2.1,(t0.2.2.1,(t0.2.2.2.1,(y7.2,t0.2.2.2.2.2)))))).getD x.2.1.toNat (Ty.zero tTxn)).2.2.2.2.1,(y8.2,((x.2.2.set x.2.1.toNat (t0.1,(t0.2.1,(t0.2.2.1,(t0.2.2.2.1,(y7.2,t0.2.2.2.2.2)))))).getD x.2.1.toNat (Ty.zero tTxn)).2.2.2.2.2.2))))))).getD x.2.1.toNat (Ty.zero tTxn)).2.2.2.2.2.2.2))))))))) (fun z9=>
 k (z9.1,z9.2.1,z9.2.2))
 else none)
 else none)
 else none
instance n23n_jp5000011 (x:(Int×Int×(List dTxn))):ParC (vc6 x):=by unfold vc6;(try dsimp only);infer_instance
def vcr (x:(Int×Int×(List dTxn)))(k:(Int×Int×(List dTxn))→Option Res):Option Res:=
 if 0≤x.2.1∧x.2.1<(x.2.2.length:Int)then
 vc6 ((IntKind.wrap .i64 (x.1+1)),x.2.1,(x.2.2.set x.2.1.toNat ((x.2.2.getD x.2.1.toNat (Ty.zero tTxn)).1,((x.2.2.getD x.2.1.toNat (Ty.zero tTxn)).2.1,((x.2.2.getD x.2.1.toNat (Ty.zero tTxn)).2.2.1,((IntKind.wrap .i64 (x.1+1)),(x.2.2.getD x.2.1.toNat (Ty.zero tTxn)).2.2.2.2)))))) (fun z6=>
 k (z6.1,z6.2.1,z6.2.2))
 else none
instance n23n_jp5000009 (x:(Int×Int×(List dTxn))):ParC (vcr x):=by unfold vcr;(try dsimp only);infer_instance
def vc2 (x:(Int×Int×(List dTxn)))(k:(Int×Int×(List dTxn))→Option Res):Option Res:=
 if 0≤x.2.1∧x.2.1<(x.2.2.length:Int)then
 vcr ((IntKind.wrap .i64 (x.1+1)),x.2.1,(x.2.2.set x.2.1.toNat ((x.2.2.getD x.2.1.toNat (Ty.zero tTxn)).1,((x.2.2.getD x.2.1.toNat (Ty.zero tTxn)).2.1,((IntKind.wrap .i64 (x.1+1)),(x.2.2.getD x.2.1.toNat (Ty.zero tTxn)).2.2.2))))) (fun z5=>
 k (z5.1,z5.2.1,z5.2.2))
 else none
instance n23n_jp5000007 (x:(Int×Int×(List dTxn))):ParC (vc2 x):=by unfold vc2;(try dsimp only);infer_instance
def vcq (x:(Int×Int×(List dTxn)))(k:(Int×Int×(List dTxn))→Option Res):Option Res:=
 if 0≤x.2.1∧x.2.1<(x.2.2.length:Int)then
 vc2 ((IntKind.wrap .i64 (x.1+1)),x.2.1,(x.2.2.set x.2.1.toNat ((x.2.2.getD x.2.1.toNat (Ty.zero tTxn)).1,((IntKind.wrap .i64 (x.1+1)),(x.2.2.getD x.2.1.toNat (Ty.zero tTxn)).2.2)))) (fun z4=>
 k (z4.1,z4.2.1,z4.2.2))
 else none
instance n23n_jp5000005 (x:(Int×Int×(List dTxn))):ParC (vcq x):=by unfold vcq;(try dsimp only);infer_instance
def vh7 (x:(Int×Int×(List dTxn)))(k:(Int×Int×(List dTxn))⊕(Int×Int×(List dTxn))→Option Res):Option Res:=
 bif (decide (x.2.1<(x.2.2.length:Int)))then
 if 0≤x.2.1∧x.2.1<(x.2.2.length:Int)then
 vcq (x.1,x.2.1,(x.2.2.set x.2.1.toNat (x.1,(x.2.2.getD x.2.1.toNat (Ty.zero tTxn)).2))) (fun z2=>
 vcz (z2.1,z2.2.1,z2.2.2) (fun z3=>
 k (.inl (z3.1,z3.2.1,z3.2.2))))
 else none
 else
 k (.inr (x.1,x.2.1,x.2.2))
instance n23n_bp0 (x:(Int×Int×(List dTxn))):ParC (vh7 x):=by unfold vh7;(try dsimp only);infer_instance
def vy9 (a0:Int)(a1:(List dTxn))(k:(Int×(List dTxn))→Option Res):Option Res:=
 vad vh7 Fuel (a0,0,a1) (fun z1=>
 k (z1.1,z1.2.2))
def vru:=shut vy9
theorem v4i:vru=vy9:=vaj _
instance n23n_p (a0:Int)(a1:(List dTxn)):ParC (vru a0 a1):=by rw [v4i];unfold vy9;(try dsimp only);infer_instance
def vxy (a0:Int)(a1:Int)(a2:Int)(a3:(List vaa))(a4:(List dTxn))(a5:(List dTxn))(k:q17T→Option Res):Option Res:=
 vv5 a2 a3 (fun y1=>
 vru y1.1 a4 (fun y2=>
 vru y2.1 a5 (fun y3=>
 k (y3.1,y1.2,y2.2,y3.2))))
def vkn:=shut vxy
theorem v2f:vkn=vxy:=vaj _
instance n20n_p (a0:Int)(a1:Int)(a2:Int)(a3:(List vaa))(a4:(List dTxn))(a5:(List dTxn)):ParC (vkn a0 a1 a2 a3 a4 a5):=by rw [v2f];unfold vxy;(try dsimp only);infer_instance
def vh9 (x:q10T)(k:q10T⊕(q10T⊕q10T)→Option Res):Option Res:=
 let t0:=(IntKind.wrap .i64 ((IntKind.wrap .i64 (x.2.1+(1:Int)))+(1:Int)))
 let t1:=(rd (Ty.zero tVersion) x.1 x.2.2.2)
 bif (decide (x.2.2.2<(x.1.length:Int)))then
 if 0≤x.2.2.2∧x.2.2.2<(x.1.length:Int)then
 vbq x.2.1 (fun y3=>
 bif (!(vba (t1.1) y3))then
 k (.inr (.inl (x.1,x.2.1,(-1:Int),x.2.2.2)))
 else
 if 0≤x.2.2.2∧x.2.2.2<(x.1.length:Int)then
 vbq (IntKind.wrap .i64 (x.2.1+1)) (fun y4=>
 bif (!(vba (t1.2.1) y4))then
 k (.inr (.inl (x.1,(IntKind.wrap .i64 (x.2.1+1)),(-1:Int),x.2.2.2)))
 else
 if 0≤x.2.2.2∧x.2.2.2<(x.1.length:Int)then
 bif (!(t1.2.2.1==((t0.tmod (3:Int))==(0:Int))))then
 k (.inr (.inl (x.1,t0,(-1:Int),x.2.2.2)))
 else
 if 0≤x.2.2.2∧x.2.2.2<(x.1.length:Int)then
 bif (t1.2.2.2 != (IntKind.wrap .i64 (t0+1)))then
 k (.inr (.inl (x.1,(IntKind.wrap .i64 (t0+1)),(-1:Int),x.2.2.2)))
 else
 k (.inl (x.1,(IntKind.wrap .i64 ((IntKind.wrap .i64 (t0+1))+1)),x.2.2.1,(IntKind.wrap .i64 (x.2.2.2+1))))
 else none
 else none)
 else none)
 else none
 else
 k (.inr (.inr (x.1,x.2.1,x.2.2.1,x.2.2.2)))
instance n18n_bp0 (x:q10T):ParC (vh9 x):=by unfold vh9;(try dsimp only);infer_instance
def vzv (a0:(List vaa))(a1:Int)(k:Int→Option Res):Option Res:=
 vad vh9 Fuel (a0,a1,0,0) (Sum.elim (fun z1=>
 k z1.2.2.1) (fun z2=>
 k z2.2.1))
def vr8:=shut vzv
theorem v1w:vr8=vzv:=vaj _
instance n18n_p (a0:(List vaa))(a1:Int):ParC (vr8 a0 a1):=by rw [v1w];unfold vzv;(try dsimp only);infer_instance
def vhp (x:q2T)(k:q2T⊕(q2T⊕q2T)→Option Res):Option Res:=
 bif (decide (x.2.2.2<(x.1.length:Int)))then
 if 0≤x.2.2.2∧x.2.2.2<(x.1.length:Int)then
 vbq x.2.1 (fun y3=>
 bif (!(vba ((rd (Ty.zero tRange) x.1 x.2.2.2).1) y3))then
 k (.inr (.inl (x.1,x.2.1,(-1:Int),x.2.2.2)))
 else
 if 0≤x.2.2.2∧x.2.2.2<(x.1.length:Int)then
 vbq (IntKind.wrap .i64 (x.2.1+1)) (fun y4=>
 bif (!(vba ((rd (Ty.zero tRange) x.1 x.2.2.2).2) y4))then
 k (.inr (.inl (x.1,(IntKind.wrap .i64 (x.2.1+1)),(-1:Int),x.2.2.2)))
 else
 k (.inl (x.1,(IntKind.wrap .i64 ((IntKind.wrap .i64 (x.2.1+1))+1)),x.2.2.1,(IntKind.wrap .i64 (x.2.2.2+1)))))
 else none)
 else none
 else
 k (.inr (.inr (x.1,x.2.1,x.2.2.1,x.2.2.2)))
instance n16n_bp0 (x:q2T):ParC (vhp x):=by unfold vhp;(try dsimp only);infer_instance
def vyn (a0:(List vak))(a1:Int)(k:Int→Option Res):Option Res:=
 vad vhp Fuel (a0,a1,0,0) (Sum.elim (fun z1=>
 k z1.2.2.1) (fun z2=>
 k z2.2.1))
def vo6:=shut vyn
theorem v27:vo6=vyn:=vaj _
instance n16n_p (a0:(List vak))(a1:Int):ParC (vo6 a0 a1):=by rw [v27];unfold vyn;(try dsimp only);infer_instance
def vig (x:q13T)(k:q13T⊕(q13T⊕q13T)→Option Res):Option Res:=
 let t0:=(IntKind.wrap .i64 (x.2.1+(1:Int)))
 bif (decide (x.2.2.2<(x.1.length:Int)))then
 if 0≤x.2.2.2∧x.2.2.2<(x.1.length:Int)then
 vbq x.2.1 (fun y3=>
 bif (!(vba ((rd (Ty.zero tWrite) x.1 x.2.2.2).1) y3))then
 k (.inr (.inl (x.1,x.2.1,(-1:Int),x.2.2.2)))
 else
 if 0≤x.2.2.2∧x.2.2.2<(x.1.length:Int)then
 vbq t0 (fun y4=>
 bif (!(vba ((rd (Ty.zero tWrite) x.1 x.2.2.2).2.1) y4))then
 k (.inr (.inl (x.1,t0,(-1:Int),x.2.2.2)))
 else
 if 0≤x.2.2.2∧x.2.2.2<(x.1.length:Int)then
 bif (!((rd (Ty.zero tWrite) x.1 x.2.2.2).2.2==(((IntKind.wrap .i64 (t0+1)).tmod (3:Int))==(0:Int))))then
 k (.inr (.inl (x.1,(IntKind.wrap .i64 (t0+1)),(-1:Int),x.2.2.2)))
 else
 k (.inl (x.1,(IntKind.wrap .i64 ((IntKind.wrap .i64 (t0+1))+1)),x.2.2.1,(IntKind.wrap .i64 (x.2.2.2+1))))
 else none)
 else none)
 else none
 else
 k (.inr (.inr (x.1,x.2.1,x.2.2.1,x.2.2.2)))
instance n19n_bp0 (x:q13T):ParC (vig x):=by unfold vig;(try dsimp only);infer_instance
def vyc (a0:(List vai))(a1:Int)(k:Int→Option Res):Option Res:=
 vad vig Fuel (a0,a1,0,0) (Sum.elim (fun z1=>
 k z1.2.2.1) (fun z2=>
 k z2.2.1))
def vos:=shut vyc
theorem v16:vos=vyc:=vaj _
instance n19n_p (a0:(List vai))(a1:Int):ParC (vos a0 a1):=by rw [v16];unfold vyc;(try dsimp only);infer_instance
def vg4 (x:q7T)(k:q7T⊕(q7T⊕q7T)→Option Res):Option Res:=
 let t0:=(IntKind.wrap .i64 ((IntKind.wrap .i64 (x.2.1+(1:Int)))+(1:Int)))
 let t1:=(rd (Ty.zero tTxn) x.1 x.2.2.2)
 bif (decide (x.2.2.2<(x.1.length:Int)))then
 if 0≤x.2.2.2∧x.2.2.2<(x.1.length:Int)then
 bif (t1.1 != x.2.1)then
 k (.inr (.inl (x.1,x.2.1,(-1:Int),x.2.2.2)))
 else
 if 0≤x.2.2.2∧x.2.2.2<(x.1.length:Int)then
 bif (t1.2.1 != (IntKind.wrap .i64 (x.2.1+1)))then
 k (.inr (.inl (x.1,(IntKind.wrap .i64 (x.2.1+1)),(-1:Int),x.2.2.2)))
 else
 if 0≤x.2.2.2∧x.2.2.2<(x.1.length:Int)then
 bif (t1.2.2.1 != t0)then
 k (.inr (.inl (x.1,t0,(-1:Int),x.2.2.2)))
 else
 if 0≤x.2.2.2∧x.2.2.2<(x.1.length:Int)then
 bif (t1.2.2.2.1 != (IntKind.wrap .i64 (t0+1)))then
 k (.inr (.inl (x.1,(IntKind.wrap .i64 (t0+1)),(-1:Int),x.2.2.2)))
 else
 if 0≤x.2.2.2∧x.2.2.2<(x.1.length:Int)then
 vo6 (t1.2.2.2.2.1) (IntKind.wrap .i64 ((IntKind.wrap .i64 (t0+1))+1)) (fun y3=>
 bif (decide (y3<0))then
 k (.inr (.inl (x.1,y3,(-1:Int),x.2.2.2)))
 else
 if 0≤x.2.2.2∧x.2.2.2<(x.1.length:Int)then
 vos (t1.2.2.2.2.2.1) y3 (fun y4=>
 bif (decide (y4<0))then
 k (.inr (.inl (x.1,y4,(-1:Int),x.2.2.2)))
 else
 if 0≤x.2.2.2∧x.2.2.2<(x.1.length:Int)then
 bif (!(t1.2.2.2.2.2.2.1==((y4.tmod (3:Int))==(0:Int))))then
 k (.inr (.inl (x.1,y4,(-1:Int),x.2.2.2)))
 else
 if 0≤x.2.2.2∧x.2.2.2<(x.1.length:Int)then
 vbq (IntKind.wrap .i64 (y4+1)) (fun y5=>
 bif (!(vba (t1.2.2.2.2.2.2.2) y5))then
 k (.inr (.inl (x.1,(IntKind.wrap .i64 (y4+1)),(-1:Int),x.2.2.2)))
 else
 k (.inl (x.1,(IntKind.wrap .i64 ((IntKind.wrap .i64 (y4+1))+1)),x.2.2.1,(IntKind.wrap .i64 (x.2.2.2+1)))))
 else none
 else none)
 else none)
 else none
 else none
 else none
 else none
 else none
 else
 k (.inr (.inr (x.1,x.2.1,x.2.2.1,x.2.2.2)))
instance n17n_bp0 (x:q7T):ParC (vg4 x):=by unfold vg4;(try dsimp only);exact⟨(vbi (vdd (vbi (vay _) (vdd (vbi (vay _) (vdd (vbi (vay _) (vdd (vbi (vay _) (vdd ((n16n_p _ _).p.bind fun y3=>(vbi (vay _) (vdd ((n19n_p _ _).p.bind fun y4=>(vbi (vay _) (vdd (vbi (vay _) (vdd ((n22n_p _).p.bind fun y5=>(vbi (vay _) (vay _))) vbs)) vbs))) vbs))) vbs)) vbs)) vbs)) vbs)) vbs) (vay _))⟩
def vy8 (a0:(List dTxn))(a1:Int)(k:Int→Option Res):Option Res:=
 vad vg4 Fuel (a0,a1,0,0) (Sum.elim (fun z1=>
 k z1.2.2.1) (fun z2=>
 k z2.2.1))
def voy:=shut vy8
theorem v1r:voy=vy8:=vaj _
instance n17n_p (a0:(List dTxn))(a1:Int):ParC (voy a0 a1):=by rw [v1r];unfold vy8;(try dsimp only);infer_instance
def vyb (a0:vdk)(a1:Int)(k:Int→Option Res):Option Res:=
 vr8 a0.1 a1 (fun y1=>
 bif (decide (y1<0))then
 k (-1:Int)
 else
 voy a0.2.1 y1 (fun y2=>
 bif (decide (y2<0))then
 k (-1:Int)
 else
 voy a0.2.2.1 y2 (fun y3=>
 bif (decide (y3<0))then
 k (-1:Int)
 else
 k y3)))
def vkr:=shut vyb
theorem v3i:vkr=vyb:=vaj _
instance n15n_p (a0:vdk)(a1:Int):ParC (vkr a0 a1):=by rw [v3i];unfold vyb;(try dsimp only);infer_instance
def vca (x:q14T)(k:q14T→Option Res):Option Res:=
 let xh:=x.2.2.2.2.2.2.2.2
 vkn xh.2.1 xh.2.2.1 (1:Int) xh.2.2.2.2.2.2.1 xh.2.2.2.2.2.2.2.1 xh.2.2.2.2.2.2.2.2 (fun y12=>
 vkr (y12.2.1,(y12.2.2.1,(y12.2.2.2,(xh.2.1,xh.2.2.1)))) (1:Int) (fun y13=>
 bif (decide (y13<0))then
 k (x.1,false,x.2.2.1,x.2.2.2.1,x.2.2.2.2.1,x.2.2.2.2.2.1,x.2.2.2.2.2.2.1,x.2.2.2.2.2.2.2.1,xh.1,xh.2.1,xh.2.2.1,xh.2.2.2.1,xh.2.2.2.2.1,xh.2.2.2.2.2.1,y12.2.1,y12.2.2.1,y12.2.2.2)
 else
 bif (y13 != y12.1)then
 k (x.1,false,x.2.2.1,x.2.2.2.1,x.2.2.2.2.1,x.2.2.2.2.2.1,x.2.2.2.2.2.2.1,x.2.2.2.2.2.2.2.1,xh.1,xh.2.1,xh.2.2.1,xh.2.2.2.1,xh.2.2.2.2.1,xh.2.2.2.2.2.1,y12.2.1,y12.2.2.1,y12.2.2.2)
 else
 vf6 (x.2.2.1,(x.2.2.2.1,(x.2.2.2.2.1,(x.2.2.2.2.2.1,x.2.2.2.2.2.2.1)))) (fun y14=>
 vmb (y14.2.2.1,(y14.2.2.2.1,(y14.2.2.2.2,(y14.1,y14.2.1)))) x.1 (fun y15=>
 vel (y15.2.2.1,(y15.2.2.2.1,(y15.2.2.2.2,(y15.1,y15.2.1)))) (xh.2.2.2.1,(xh.2.2.2.2.1,(xh.2.2.2.2.2.1,(x.2.2.2.2.2.2.2.1,xh.1)))) (fun y16=>
 bif (!y16)then
 k (x.1,false,x.2.2.1,x.2.2.2.1,x.2.2.2.2.1,x.2.2.2.2.2.1,x.2.2.2.2.2.2.1,x.2.2.2.2.2.2.2.1,xh.1,xh.2.1,xh.2.2.1,xh.2.2.2.1,xh.2.2.2.2.1,xh.2.2.2.2.2.1,y12.2.1,y12.2.2.1,y12.2.2.2)
 else
 vkr (y12.2.1,(y12.2.2.1,(y12.2.2.2,(xh.2.1,xh.2.2.1)))) (1:Int) (fun y17=>
 bif (decide (y17<0))then
 k (x.1,false,x.2.2.1,x.2.2.2.1,x.2.2.2.2.1,x.2.2.2.2.2.1,x.2.2.2.2.2.2.1,x.2.2.2.2.2.2.2.1,xh.1,xh.2.1,xh.2.2.1,xh.2.2.2.1,xh.2.2.2.2.1,xh.2.2.2.2.2.1,y12.2.1,y12.2.2.1,y12.2.2.2)
 else
 bif (y17 != y12.1)then
 k (x.1,false,x.2.2.1,x.2.2.2.1,x.2.2.2.2.1,x.2.2.2.2.2.1,x.2.2.2.2.2.2.1,x.2.2.2.2.2.2.2.1,xh.1,xh.2.1,xh.2.2.1,xh.2.2.2.1,xh.2.2.2.2.1,xh.2.2.2.2.2.1,y12.2.1,y12.2.2.1,y12.2.2.2)
 else
 k (x.1,true,x.2.2.1,x.2.2.2.1,x.2.2.2.2.1,x.2.2.2.2.2.1,x.2.2.2.2.2.2.1,x.2.2.2.2.2.2.2.1,xh.1,xh.2.1,xh.2.2.1,xh.2.2.2.1,xh.2.2.2.2.1,xh.2.2.2.2.2.1,y12.2.1,y12.2.2.1,y12.2.2.2)))))))
instance n05n_jp5000018 (x:q14T):ParC (vca x):=by unfold vca;(try dsimp only);exact⟨((n20n_p _ _ _ _ _ _).p.bind fun y12=>((n15n_p _ _).p.bind fun y13=>(vbi (vay _) (vbi (vay _) ((n35n_p _).p.bind fun y14=>((n00n_p _ _).p.bind fun y15=>((n06n_p _ _).p.bind fun y16=>(vbi (vay _) ((n15n_p _ _).p.bind fun y17=>(vbi (vay _) (vbi (vay _) (vay _))))))))))))⟩
def vyl (a0:vdk)(a1:ByteArray)(k:Bool→Option Res):Option Res:=
 bif (decide ((a1.size:Int)>(1048576:Int)))then
 k true
 else
 vrh a0 (1048576:Int) (fun y1=>
 bif (decide (y1<0))then
 k true
 else
 vf6 a0 (fun y2=>
 vn1 (y2.2.2.1,(y2.2.2.2.1,(y2.2.2.2.2,(y2.1,y2.2.1)))) a1 (fun y3=>
 vf6 a0 (fun y4=>
 vmb (y4.2.2.1,(y4.2.2.2.1,(y4.2.2.2.2,(y4.1,y4.2.1)))) a1 (fun y5=>
 vel (y5.2.2.1,(y5.2.2.2.1,(y5.2.2.2.2,(y5.1,y5.2.1)))) (y3.2.2.1,(y3.2.2.2.1,(y3.2.2.2.2,(y3.1,y3.2.1)))) (fun y6=>
 bif (!y6)then
 k false
 else
 vf6 a0 (fun y7=>
 vel (y4.2.2.1,(y4.2.2.2.1,(y4.2.2.2.2,(y4.1,y4.2.1)))) (y7.2.2.1,(y7.2.2.2.1,(y7.2.2.2.2,(y7.1,y7.2.1)))) (fun y8=>
 bif (!y8)then
 k false
 else
 vkn y4.1 y4.2.1 (1:Int) y4.2.2.1 y4.2.2.2.1 y4.2.2.2.2 (fun y9=>
 bif (decide (y9.1<0))then
 k false
 else
 vel (y5.2.2.1,(y5.2.2.2.1,(y5.2.2.2.2,(y5.1,y5.2.1)))) (y3.2.2.1,(y3.2.2.2.1,(y3.2.2.2.2,(y3.1,y3.2.1)))) (fun y10=>
 bif (!y10)then
 k false
 else
 vca (a1,false,a0.1,a0.2.1,a0.2.2.1,a0.2.2.2.1,a0.2.2.2.2,y3.1,y3.2.1,y5.1,y5.2.1,y3.2.2.1,y3.2.2.2.1,y3.2.2.2.2,y5.2.2.1,y5.2.2.2.1,y5.2.2.2.2) (fun z11=>
 k z11.2.1)))))))))))
def vv6:=shut vyl
theorem v37:vv6=vyl:=vaj _
instance n05n_p (a0:vdk)(a1:ByteArray):ParC (vv6 a0 a1):=by rw [v37];unfold vyl;(try dsimp only);exact⟨(vbi (vay _) ((n26n_p _ _).p.bind fun y1=>(vbi (vay _) ((n35n_p _).p.bind fun y2=>((n46n_p _ _).p.bind fun y3=>((n35n_p _).p.bind fun y4=>((n00n_p _ _).p.bind fun y5=>((n06n_p _ _).p.bind fun y6=>(vbi (vay _) ((n35n_p _).p.bind fun y7=>((n06n_p _ _).p.bind fun y8=>(vbi (vay _) ((n20n_p _ _ _ _ _ _).p.bind fun y9=>(vbi (vay _) ((n06n_p _ _).p.bind fun y10=>(vbi (vay _) ((n05n_jp5000018 _).p.bind fun z11=>(vay _))))))))))))))))))⟩
def v8h (args:List AV)(st:St)(k:K1):Option Res:=
 val [.agg [.str,.str,.bool,.i],.i] [] args st (fun p q=>vqv (p.1.1,(p.1.2.1,(p.1.2.2.1,p.1.2.2.2.1))) p.2.1 (fun(y:Int)=>k (.i y) []))
 (none)
def v8r (args:List AV)(st:St)(k:K1):Option Res:=
 val [.lst tVersion,.i] [] args st (fun p q=>vv0 p.1 p.2.1 (fun(y:Int)=>k (.i y) []))
 (none)
def v88 (args:List AV)(st:St)(k:K1):Option Res:=
 val [.agg [.str,.str],.i] [] args st (fun p q=>vq9 (p.1.1,p.1.2.1) p.2.1 (fun(y:Int)=>k (.i y) []))
 (none)
def v80 (args:List AV)(st:St)(k:K1):Option Res:=
 val [.lst tRange,.i] [] args st (fun p q=>vvj p.1 p.2.1 (fun(y:Int)=>k (.i y) []))
 (none)
def v8s (args:List AV)(st:St)(k:K1):Option Res:=
 val [.agg [.str,.str,.bool],.i] [] args st (fun p q=>vrg (p.1.1,(p.1.2.1,p.1.2.2.1)) p.2.1 (fun(y:Int)=>k (.i y) []))
 (none)
def v71 (args:List AV)(st:St)(k:K1):Option Res:=
 val [.lst tWrite,.i] [] args st (fun p q=>vt7 p.1 p.2.1 (fun(y:Int)=>k (.i y) []))
 (none)
def v7t (args:List AV)(st:St)(k:K1):Option Res:=
 val [.agg [.i,.i,.i,.i,.lst tRange,.lst tWrite,.bool,.str],.i] [] args st (fun p q=>vsc (p.1.1,(p.1.2.1,(p.1.2.2.1,(p.1.2.2.2.1,(p.1.2.2.2.2.1,(p.1.2.2.2.2.2.1,(p.1.2.2.2.2.2.2.1,p.1.2.2.2.2.2.2.2.1))))))) p.2.1 (fun(y:Int)=>k (.i y) []))
 (none)
def v8c (args:List AV)(st:St)(k:K1):Option Res:=
 val [.lst tTxn,.i] [] args st (fun p q=>vqi p.1 p.2.1 (fun(y:Int)=>k (.i y) []))
 (none)
def v74 (args:List AV)(st:St)(k:K1):Option Res:=
 val [.agg [.lst tVersion,.lst tTxn,.lst tTxn,.i,.i],.i] [] args st (fun p q=>vrh (p.1.1,(p.1.2.1,(p.1.2.2.1,(p.1.2.2.2.1,p.1.2.2.2.2.1)))) p.2.1 (fun(y:Int)=>k (.i y) []))
 (none)
def v7s (args:List AV)(st:St)(k:K1):Option Res:=
 val [.agg [.str,.str,.bool,.i]] [] args st (fun p q=>vrs (p.1.1,(p.1.2.1,(p.1.2.2.1,p.1.2.2.2.1))) (fun(y:q15T)=>k (.agg [.str y.1,.str y.2.1,.bool y.2.2.1,.i y.2.2.2]) []))
 (none)
def v8p (args:List AV)(st:St)(k:K1):Option Res:=
 val [.lst tVersion] [] args st (fun p q=>vqo p.1 (fun(y:(List vaa))=>k (.own 0) [.arr tVersion y]))
 (none)
def v8e (args:List AV)(st:St)(k:K1):Option Res:=
 val [.agg [.str,.str]] [] args st (fun p q=>vq4 (p.1.1,p.1.2.1) (fun(y:(ByteArray×ByteArray))=>k (.agg [.str y.1,.str y.2]) []))
 (none)
def v8q (args:List AV)(st:St)(k:K1):Option Res:=
 val [.lst tRange] [] args st (fun p q=>vqe p.1 (fun(y:(List vak))=>k (.own 0) [.arr tRange y]))
 (none)
def v8k (args:List AV)(st:St)(k:K1):Option Res:=
 val [.agg [.str,.str,.bool]] [] args st (fun p q=>vqf (p.1.1,(p.1.2.1,p.1.2.2.1)) (fun(y:(ByteArray×ByteArray×Bool))=>k (.agg [.str y.1,.str y.2.1,.bool y.2.2]) []))
 (none)
def v7z (args:List AV)(st:St)(k:K1):Option Res:=
 val [.lst tWrite] [] args st (fun p q=>vqr p.1 (fun(y:(List vai))=>k (.own 0) [.arr tWrite y]))
 (none)
def v77 (args:List AV)(st:St)(k:K1):Option Res:=
 val [.agg [.i,.i,.i,.i,.lst tRange,.lst tWrite,.bool,.str]] [] args st (fun p q=>vnw (p.1.1,(p.1.2.1,(p.1.2.2.1,(p.1.2.2.2.1,(p.1.2.2.2.2.1,(p.1.2.2.2.2.2.1,(p.1.2.2.2.2.2.2.1,p.1.2.2.2.2.2.2.2.1))))))) (fun(y:q19T)=>k (.agg [.i y.1,.i y.2.1,.i y.2.2.1,.i y.2.2.2.1,.own 0,.own 1,.bool y.2.2.2.2.1,.str y.2.2.2.2.2.1]) [.arr tRange y.2.2.2.2.2.2.1,.arr tWrite y.2.2.2.2.2.2.2]))
 (none)
def v7r (args:List AV)(st:St)(k:K1):Option Res:=
 val [.lst tTxn] [] args st (fun p q=>vop p.1 (fun(y:(List dTxn))=>k (.own 0) [.dep tTxn y 0 []]))
 (none)
def v81 (args:List AV)(st:St)(k:K1):Option Res:=
 val [.agg [.lst tVersion,.lst tTxn,.lst tTxn,.i,.i]] [] args st (fun p q=>vf6 (p.1.1,(p.1.2.1,(p.1.2.2.1,(p.1.2.2.2.1,p.1.2.2.2.2.1)))) (fun(y:q18T)=>k (.agg [.own 0,.own 1,.own 2,.i y.1,.i y.2.1]) [.arr tVersion y.2.2.1,.dep tTxn y.2.2.2.1 0 [],.dep tTxn y.2.2.2.2 0 []]))
 (none)
def v8g (args:List AV)(st:St)(k:K1):Option Res:=
 val [.agg [.i,.i,.i,.i,.lst tRange,.lst tWrite,.bool,.str]] [] args st (fun p q=>vml (p.1.1,(p.1.2.1,(p.1.2.2.1,(p.1.2.2.2.1,(p.1.2.2.2.2.1,(p.1.2.2.2.2.2.1,(p.1.2.2.2.2.2.2.1,p.1.2.2.2.2.2.2.2.1))))))) (fun(y:q19T)=>k (.agg [.i y.1,.i y.2.1,.i y.2.2.1,.i y.2.2.2.1,.own 0,.own 1,.bool y.2.2.2.2.1,.str y.2.2.2.2.2.1]) [.arr tRange y.2.2.2.2.2.2.1,.arr tWrite y.2.2.2.2.2.2.2]))
 (none)
def v8z (args:List AV)(st:St)(k:K1):Option Res:=
 val [.lst tTxn] [] args st (fun p q=>vnv p.1 (fun(y:(List dTxn))=>k (.own 0) [.arr tTxn y]))
 (none)
def v8y (args:List AV)(st:St)(k:K1):Option Res:=
 val [.agg [.lst tVersion,.lst tTxn,.lst tTxn,.i,.i]] [] args st (fun p q=>vqc (p.1.1,(p.1.2.1,(p.1.2.2.1,(p.1.2.2.2.1,p.1.2.2.2.2.1)))) (fun(y:q18T)=>k (.agg [.own 0,.own 1,.own 2,.i y.1,.i y.2.1]) [.arr tVersion y.2.2.1,.arr tTxn y.2.2.2.1,.arr tTxn y.2.2.2.2]))
 (none)
def v8v (args:List AV)(st:St)(k:K1):Option Res:=
 val [.agg [.lst tVersion,.lst tTxn,.lst tTxn,.i,.i],.str] [] args st (fun p q=>vn1 (p.1.1,(p.1.2.1,(p.1.2.2.1,(p.1.2.2.2.1,p.1.2.2.2.2.1)))) p.2.1 (fun(y:q18T)=>k (.agg [.own 0,.own 1,.own 2,.i y.1,.i y.2.1]) [.arr tVersion y.2.2.1,.arr tTxn y.2.2.2.1,.arr tTxn y.2.2.2.2]))
 (none)
def v8f (args:List AV)(st:St)(k:K1):Option Res:=
 val [.agg [.i,.i,.i,.i,.lst tRange,.lst tWrite,.bool,.str]] [] args st (fun p q=>vrk (p.1.1,(p.1.2.1,(p.1.2.2.1,(p.1.2.2.2.1,(p.1.2.2.2.2.1,(p.1.2.2.2.2.2.1,(p.1.2.2.2.2.2.2.1,p.1.2.2.2.2.2.2.2.1))))))) (fun(y:q19T)=>k (.agg [.i y.1,.i y.2.1,.i y.2.2.1,.i y.2.2.2.1,.own 0,.own 1,.bool y.2.2.2.2.1,.str y.2.2.2.2.2.1]) [.arr tRange y.2.2.2.2.2.2.1,.arr tWrite y.2.2.2.2.2.2.2]))
 (none)
def v8w (args:List AV)(st:St)(k:K1):Option Res:=
 val [.lst tTxn] [] args st (fun p q=>vnr p.1 (fun(y:(List dTxn))=>k (.own 0) [.dep tTxn y 0 []]))
 (none)
def v85 (args:List AV)(st:St)(k:K1):Option Res:=
 val [.agg [.lst tVersion,.lst tTxn,.lst tTxn,.i,.i]] [] args st (fun p q=>vuk (p.1.1,(p.1.2.1,(p.1.2.2.1,(p.1.2.2.2.1,p.1.2.2.2.2.1)))) (fun(y:q18T)=>k (.agg [.own 0,.own 1,.own 2,.i y.1,.i y.2.1]) [.arr tVersion y.2.2.1,.dep tTxn y.2.2.2.1 0 [],.dep tTxn y.2.2.2.2 0 []]))
 (none)
def v8n (args:List AV)(st:St)(k:K1):Option Res:=
 val [.agg [.i,.i,.i,.i,.lst tRange,.lst tWrite,.bool,.str],.bp 0 0] [.box [.str]] args st (fun p q=>vmg (p.1.1,(p.1.2.1,(p.1.2.2.1,(p.1.2.2.2.1,(p.1.2.2.2.2.1,(p.1.2.2.2.2.2.1,(p.1.2.2.2.2.2.2.1,p.1.2.2.2.2.2.2.2.1))))))) q.1.1 (fun(y:(Bool×ByteArray))=>k (.bool y.1) [.box [.str y.2]]))
 (none)
def vc8 (args:List AV)(st:St)(k:K1):Option Res:=
 val [.lst tTxn,.fn 32 [.bp 0 0]] [.box [.str]] args st (fun p q=>vnl p.1 q.1.1 (fun(y:(Int×ByteArray))=>k (.i y.1) [.box [.str y.2]]))
 (none)
def vcu (args:List AV)(st:St)(k:K1):Option Res:=
 val [.own 0,.fn 32 [.bp 1 0]] [.dep tTxn 0,.box [.str]] args st (fun p q=>vq6 q.1 q.2.1.1 (Sum.elim (fun(y:((List dTxn)×ByteArray))=>k (.own 0) [.dep tTxn y.1 0 [],.box [.str y.2]]) (fun(y:(ByteArray×(List dTxn)))=>k (.own 2) [.gone,.box [.str y.1],.dep tTxn y.2 0 []])))
 (none)
def v8m (args:List AV)(st:St)(k:K1):Option Res:=
 val [.agg [.lst tVersion,.lst tTxn,.lst tTxn,.i,.i],.str] [] args st (fun p q=>vmb (p.1.1,(p.1.2.1,(p.1.2.2.1,(p.1.2.2.2.1,p.1.2.2.2.2.1)))) p.2.1 (fun(y:q18T)=>k (.agg [.own 0,.own 1,.own 2,.i y.1,.i y.2.1]) [.arr tVersion y.2.2.1,.dep tTxn y.2.2.2.1 0 [],.dep tTxn y.2.2.2.2 0 []]))
 (none)
def v8i (args:List AV)(st:St)(k:K1):Option Res:=
 val [.agg [.str,.str,.bool,.i],.agg [.str,.str,.bool,.i]] [] args st (fun p q=>vqb (p.1.1,(p.1.2.1,(p.1.2.2.1,p.1.2.2.2.1))) (p.2.1.1,(p.2.1.2.1,(p.2.1.2.2.1,p.2.1.2.2.2.1))) (fun(y:Bool)=>k (.bool y) []))
 (none)
def v8d (args:List AV)(st:St)(k:K1):Option Res:=
 val [.lst tVersion,.lst tVersion] [] args st (fun p q=>vqp p.1 p.2.1 (fun(y:Bool)=>k (.bool y) []))
 (none)
def v87 (args:List AV)(st:St)(k:K1):Option Res:=
 val [.agg [.str,.str],.agg [.str,.str]] [] args st (fun p q=>vrm (p.1.1,p.1.2.1) (p.2.1.1,p.2.1.2.1) (fun(y:Bool)=>k (.bool y) []))
 (none)
def v7u (args:List AV)(st:St)(k:K1):Option Res:=
 val [.lst tRange,.lst tRange] [] args st (fun p q=>vrp p.1 p.2.1 (fun(y:Bool)=>k (.bool y) []))
 (none)
def v83 (args:List AV)(st:St)(k:K1):Option Res:=
 val [.agg [.str,.str,.bool],.agg [.str,.str,.bool]] [] args st (fun p q=>vq0 (p.1.1,(p.1.2.1,p.1.2.2.1)) (p.2.1.1,(p.2.1.2.1,p.2.1.2.2.1)) (fun(y:Bool)=>k (.bool y) []))
 (none)
def v8t (args:List AV)(st:St)(k:K1):Option Res:=
 val [.lst tWrite,.lst tWrite] [] args st (fun p q=>vq3 p.1 p.2.1 (fun(y:Bool)=>k (.bool y) []))
 (none)
def v78 (args:List AV)(st:St)(k:K1):Option Res:=
 val [.agg [.i,.i,.i,.i,.lst tRange,.lst tWrite,.bool,.str],.agg [.i,.i,.i,.i,.lst tRange,.lst tWrite,.bool,.str]] [] args st (fun p q=>vpq (p.1.1,(p.1.2.1,(p.1.2.2.1,(p.1.2.2.2.1,(p.1.2.2.2.2.1,(p.1.2.2.2.2.2.1,(p.1.2.2.2.2.2.2.1,p.1.2.2.2.2.2.2.2.1))))))) (p.2.1.1,(p.2.1.2.1,(p.2.1.2.2.1,(p.2.1.2.2.2.1,(p.2.1.2.2.2.2.1,(p.2.1.2.2.2.2.2.1,(p.2.1.2.2.2.2.2.2.1,p.2.1.2.2.2.2.2.2.2.1))))))) (fun(y:Bool)=>k (.bool y) []))
 (none)
def v82 (args:List AV)(st:St)(k:K1):Option Res:=
 val [.lst tTxn,.lst tTxn] [] args st (fun p q=>vmn p.1 p.2.1 (fun(y:Bool)=>k (.bool y) []))
 (none)
def v79 (args:List AV)(st:St)(k:K1):Option Res:=
 val [.agg [.lst tVersion,.lst tTxn,.lst tTxn,.i,.i],.agg [.lst tVersion,.lst tTxn,.lst tTxn,.i,.i]] [] args st (fun p q=>vel (p.1.1,(p.1.2.1,(p.1.2.2.1,(p.1.2.2.2.1,p.1.2.2.2.2.1)))) (p.2.1.1,(p.2.1.2.1,(p.2.1.2.2.1,(p.2.1.2.2.2.1,p.2.1.2.2.2.2.1)))) (fun(y:Bool)=>k (.bool y) []))
 (none)
def v72 (args:List AV)(st:St)(k:K1):Option Res:=
 val [.i] [] args st (fun p q=>vbq p.1 (fun(y:ByteArray)=>k (.str y) []))
 (none)
def vee (args:List AV)(st:St)(k:K1):Option Res:=
 val [.own 0,.i] [.arr tVersion] args st (fun p q=>vv5 p.2.1 q.1 (fun(y:(Int×(List vaa)))=>k (.i y.1) [.arr tVersion y.2]))
 (none)
def vfu (args:List AV)(st:St)(k:K1):Option Res:=
 val [.own 0,.i] [.arr tRange] args st (fun p q=>vuz p.2.1 q.1 (fun(y:(Int×(List vak)))=>k (.i y.1) [.arr tRange y.2]))
 (none)
def vf2 (args:List AV)(st:St)(k:K1):Option Res:=
 val [.own 0,.i] [.arr tWrite] args st (fun p q=>vu4 p.2.1 q.1 (fun(y:(Int×(List vai)))=>k (.i y.1) [.arr tWrite y.2]))
 (none)
def vhg (args:List AV)(st:St)(k:K1):Option Res:=
 val [.own 0,.i] [.dep tTxn 0] args st (fun p q=>vru p.2.1 q.1 (fun(y:(Int×(List dTxn)))=>k (.i y.1) [.dep tTxn y.2 0 []]))
 (none)
def vht (args:List AV)(st:St)(k:K1):Option Res:=
 val [.agg [.own 0,.own 1,.own 2,.i,.i],.i] [.arr tVersion,.dep tTxn 0,.dep tTxn 0] args st (fun p q=>vkn p.1.2.2.2.1 p.1.2.2.2.2.1 p.2.1 q.1 q.2.1 q.2.2.1 (fun(y:q17T)=>k (.i y.1) [.arr tVersion y.2.1,.dep tTxn y.2.2.1 0 [],.dep tTxn y.2.2.2 0 []]))
 (none)
def v84 (args:List AV)(st:St)(k:K1):Option Res:=
 val [.lst tVersion,.i] [] args st (fun p q=>vr8 p.1 p.2.1 (fun(y:Int)=>k (.i y) []))
 (none)
def v8b (args:List AV)(st:St)(k:K1):Option Res:=
 val [.lst tRange,.i] [] args st (fun p q=>vo6 p.1 p.2.1 (fun(y:Int)=>k (.i y) []))
 (none)
def v7v (args:List AV)(st:St)(k:K1):Option Res:=
 val [.lst tWrite,.i] [] args st (fun p q=>vos p.1 p.2.1 (fun(y:Int)=>k (.i y) []))
 (none)
def v70 (args:List AV)(st:St)(k:K1):Option Res:=
 val [.lst tTxn,.i] [] args st (fun p q=>voy p.1 p.2.1 (fun(y:Int)=>k (.i y) []))
 (none)
def v86 (args:List AV)(st:St)(k:K1):Option Res:=
 val [.agg [.lst tVersion,.lst tTxn,.lst tTxn,.i,.i],.i] [] args st (fun p q=>vkr (p.1.1,(p.1.2.1,(p.1.2.2.1,(p.1.2.2.2.1,p.1.2.2.2.2.1)))) p.2.1 (fun(y:Int)=>k (.i y) []))
 (none)
def v3j (args:List AV)(st:St)(k:K1):Option Res:=
 val [.agg [.lst tVersion,.lst tTxn,.lst tTxn,.i,.i],.str] [] args st (fun p q=>vv6 (p.1.1,(p.1.2.1,(p.1.2.2.1,(p.1.2.2.2.1,p.1.2.2.2.2.1)))) p.2.1 (fun(y:Bool)=>k (.bool y) []))
 (none)
end
end Go.VE
