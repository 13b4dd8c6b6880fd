/- Native programs of the functions, written by gen.py. -/
import Derived.Test.YtbaniaofomgceaaT0
namespace Go.VE
noncomputable section
set_option linter.unusedVariables false
set_option linter.unusedSimpArgs false
set_option maxRecDepth 100000
abbrev q0T:Type:=((List vaj)×(List vaj)×Bool×Int)
abbrev q1T:Type:=((List vaj)×Int×(List vaj))
abbrev q2T:Type:=((List vaj)×Int×Int×Int)
abbrev q3T:Type:=((List dTxn)×(List dTxn)×Bool×Int)
abbrev q4T:Type:=((List dTxn)×Bool×(List vaa)×(List dTxn)×(List dTxn)×Int×Int×Int×Int×Int×Int×(List vaa)×(List dTxn)×(List dTxn)×(List vaa)×(List dTxn)×(List dTxn))
abbrev q5T:Type:=((List dTxn)×Int×(List dTxn))
abbrev q6T:Type:=((List dTxn)×Int×Int×(List dTxn))
abbrev q7T:Type:=((List dTxn)×Int×Int×Int×Int)
abbrev q8T:Type:=((List dTxn)×Int×Int×Int)
abbrev q9T:Type:=((List vaa)×(List vaa)×Bool×Int)
abbrev q10T:Type:=((List vaa)×ByteArray×Int×Int×(List vaa)×Int×Int)
abbrev q11T:Type:=((List vaa)×ByteArray×Int×Int×Int)
abbrev q12T:Type:=((List vaa)×Int×(List vaa)×Int×Int×(List vaa))
abbrev q13T:Type:=((List vaa)×Int×(List vaa)×Int×Int×Bool×ByteArray×ByteArray×Bool×Int×(List vaa))
abbrev q14T:Type:=((List vaa)×Int×(List vaa))
abbrev q15T:Type:=((List vaa)×Int×Int×(List vaa))
abbrev q16T:Type:=((List vaa)×Int×Int×Bool×(List vaa))
abbrev q17T:Type:=((List vaa)×Int×Int×Int)
abbrev q18T:Type:=((List vak)×(List vak)×Bool×Int)
abbrev q19T:Type:=((List vak)×Int×(List vak))
abbrev q20T:Type:=((List vak)×Int×Int×Int)
abbrev q21T:Type:=(ByteArray×ByteArray×Bool×Int)
abbrev q22T:Type:=(ByteArray×Int×Int×Int×(List vaa))
abbrev q23T:Type:=(Int×(List dTxn)×Int×Int)
abbrev q24T:Type:=(Int×(List vaa)×(List dTxn)×(List dTxn))
abbrev q25T:Type:=(Int×Int×(List vaa)×(List dTxn)×(List dTxn)×Int×Int×Int×Int×Int×Int×(List vaa)×(List dTxn)×(List dTxn))
abbrev q26T:Type:=(Int×Int×(List vaa)×(List dTxn)×(List dTxn))
abbrev q27T:Type:=(Int×Int×(List vaa)×(List vaa))
abbrev q28T:Type:=(Int×Int×Bool×(List vaa)×(List vaa))
abbrev q29T:Type:=(Int×Int×Int×(List vaa)×(List vaa))
abbrev q30T:Type:=(Int×Int×Int×Int×(List vaa)×(List vaa))
abbrev q31T:Type:=(Int×Int×Int×Int×Bool×ByteArray×(List vaj)×(List vak))
def v13 (a0:vaa)(a1:Int)(k:Int→Option Res):Option Res:=
 bif (decide ((IntKind.wrap .i64 (a1-(a0.1.size:Int)))<(0:Int)))then
 k (-1:Int)
 else
 bif (decide ((IntKind.wrap .i64 ((IntKind.wrap .i64 (a1-(a0.1.size:Int)))-(a0.2.1.size:Int)))<(0:Int)))then
 k (-1:Int)
 else
 k (IntKind.wrap .i64 ((IntKind.wrap .i64 (a1-(a0.1.size:Int)))-(a0.2.1.size:Int)))
def vt4:=shut v13
theorem v4e:vt4=v13:=vai _
instance n35n_p (a0:vaa)(a1:Int):ParC (vt4 a0 a1):=by rw [v4e];unfold v13;(try dsimp only);infer_instance
def vid (x:q17T)(k:q17T⊕(q17T⊕q17T)→Option Res):Option Res:=
 bif (decide (x.2.2.2<(x.1.length:Int)))then
 if 0≤x.2.2.2∧x.2.2.2<(x.1.length:Int)then
 vt4 (rd (Ty.zero tVersion) x.1 x.2.2.2) x.2.1 (fun y3=>
 bif (decide (y3<0))then
 k (.inr (.inl (x.1,y3,(-1:Int),x.2.2.2)))
 else
 k (.inl (x.1,y3,x.2.2.1,(IntKind.wrap .i64 (x.2.2.2+1)))))
 else none
 else
 k (.inr (.inr (x.1,x.2.1,x.2.2.1,x.2.2.2)))
instance n36n_bp0 (x:q17T):ParC (vid x):=by unfold vid;(try dsimp only);infer_instance
def v0s (a0:(List vaa))(a1:Int)(k:Int→Option Res):Option Res:=
 bif (decide ((IntKind.wrap .i64 (a1-(a0.length:Int)))<(0:Int)))then
 k (-1:Int)
 else
 vac vid Fuel (a0,(IntKind.wrap .i64 (a1-(a0.length:Int))),0,0) (Sum.elim (fun z1=>
 k z1.2.2.1) (fun z2=>
 k z2.2.1))
def vww:=shut v0s
theorem v52:vww=v0s:=vai _
instance n36n_p (a0:(List vaa))(a1:Int):ParC (vww a0 a1):=by rw [v52];unfold v0s;(try dsimp only);infer_instance
def v2s (a0:vaj)(a1:Int)(k:Int→Option Res):Option Res:=
 bif (decide ((IntKind.wrap .i64 (a1-(a0.1.size:Int)))<(0:Int)))then
 k (-1:Int)
 else
 bif (decide ((IntKind.wrap .i64 ((IntKind.wrap .i64 (a1-(a0.1.size:Int)))-(a0.2.size:Int)))<(0:Int)))then
 k (-1:Int)
 else
 k (IntKind.wrap .i64 ((IntKind.wrap .i64 (a1-(a0.1.size:Int)))-(a0.2.size:Int)))
def vtl:=shut v2s
theorem v7r:vtl=v2s:=vai _
instance n31n_p (a0:vaj)(a1:Int):ParC (vtl a0 a1):=by rw [v7r];unfold v2s;(try dsimp only);infer_instance
def vht (x:q2T)(k:q2T⊕(q2T⊕q2T)→Option Res):Option Res:=
 bif (decide (x.2.2.2<(x.1.length:Int)))then
 if 0≤x.2.2.2∧x.2.2.2<(x.1.length:Int)then
 vtl (rd (Ty.zero tRange) x.1 x.2.2.2) x.2.1 (fun y3=>
 bif (decide (y3<0))then
 k (.inr (.inl (x.1,y3,(-1:Int),x.2.2.2)))
 else
 k (.inl (x.1,y3,x.2.2.1,(IntKind.wrap .i64 (x.2.2.2+1)))))
 else none
 else
 k (.inr (.inr (x.1,x.2.1,x.2.2.1,x.2.2.2)))
instance n32n_bp0 (x:q2T):ParC (vht x):=by unfold vht;(try dsimp only);infer_instance
def v0w (a0:(List vaj))(a1:Int)(k:Int→Option Res):Option Res:=
 bif (decide ((IntKind.wrap .i64 (a1-(a0.length:Int)))<(0:Int)))then
 k (-1:Int)
 else
 vac vht Fuel (a0,(IntKind.wrap .i64 (a1-(a0.length:Int))),0,0) (Sum.elim (fun z1=>
 k z1.2.2.1) (fun z2=>
 k z2.2.1))
def vxt:=shut v0w
theorem v7t:vxt=v0w:=vai _
instance n32n_p (a0:(List vaj))(a1:Int):ParC (vxt a0 a1):=by rw [v7t];unfold v0w;(try dsimp only);infer_instance
def v1r (a0:vak)(a1:Int)(k:Int→Option Res):Option Res:=
 bif (decide ((IntKind.wrap .i64 (a1-(a0.1.size:Int)))<(0:Int)))then
 k (-1:Int)
 else
 bif (decide ((IntKind.wrap .i64 ((IntKind.wrap .i64 (a1-(a0.1.size:Int)))-(a0.2.1.size:Int)))<(0:Int)))then
 k (-1:Int)
 else
 k (IntKind.wrap .i64 ((IntKind.wrap .i64 (a1-(a0.1.size:Int)))-(a0.2.1.size:Int)))
def vse:=shut v1r
theorem v4a:vse=v1r:=vai _
instance n37n_p (a0:vak)(a1:Int):ParC (vse a0 a1):=by rw [v4a];unfold v1r;(try dsimp only);infer_instance
def vja (x:q20T)(k:q20T⊕(q20T⊕q20T)→Option Res):Option Res:=
 bif (decide (x.2.2.2<(x.1.length:Int)))then
 if 0≤x.2.2.2∧x.2.2.2<(x.1.length:Int)then
 vse (rd (Ty.zero tWrite) x.1 x.2.2.2) x.2.1 (fun y3=>
 bif (decide (y3<0))then
 k (.inr (.inl (x.1,y3,(-1:Int),x.2.2.2)))
 else
 k (.inl (x.1,y3,x.2.2.1,(IntKind.wrap .i64 (x.2.2.2+1)))))
 else none
 else
 k (.inr (.inr (x.1,x.2.1,x.2.2.1,x.2.2.2)))
instance n38n_bp0 (x:q20T):ParC (vja x):=by unfold vja;(try dsimp only);infer_instance
def v03 (a0:(List vak))(a1:Int)(k:Int→Option Res):Option Res:=
 bif (decide ((IntKind.wrap .i64 (a1-(a0.length:Int)))<(0:Int)))then
 k (-1:Int)
 else
 vac vja Fuel (a0,(IntKind.wrap .i64 (a1-(a0.length:Int))),0,0) (Sum.elim (fun z1=>
 k z1.2.2.1) (fun z2=>
 k z2.2.1))
def vwm:=shut v03
theorem v6s:vwm=v03:=vai _
instance n38n_p (a0:(List vak))(a1:Int):ParC (vwm a0 a1):=by rw [v6s];unfold v03;(try dsimp only);infer_instance
def v2f (a0:dTxn)(a1:Int)(k:Int→Option Res):Option Res:=
 vxt a0.2.2.2.2.1 a1 (fun y1=>
 bif (decide (y1<0))then
 k (-1:Int)
 else
 vwm a0.2.2.2.2.2.1 y1 (fun y2=>
 bif (decide (y2<0))then
 k (-1:Int)
 else
 bif (decide ((IntKind.wrap .i64 (y2-(a0.2.2.2.2.2.2.2.size:Int)))<(0:Int)))then
 k (-1:Int)
 else
 k (IntKind.wrap .i64 (y2-(a0.2.2.2.2.2.2.2.size:Int)))))
def vtw:=shut v2f
theorem v5y:vtw=v2f:=vai _
instance n33n_p (a0:dTxn)(a1:Int):ParC (vtw a0 a1):=by rw [v5y];unfold v2f;(try dsimp only);infer_instance
def vix (x:q8T)(k:q8T⊕(q8T⊕q8T)→Option Res):Option Res:=
 bif (decide (x.2.2.2<(x.1.length:Int)))then
 if 0≤x.2.2.2∧x.2.2.2<(x.1.length:Int)then
 vtw (rd (Ty.zero tTxn) x.1 x.2.2.2) x.2.1 (fun y3=>
 bif (decide (y3<0))then
 k (.inr (.inl (x.1,y3,(-1:Int),x.2.2.2)))
 else
 k (.inl (x.1,y3,x.2.2.1,(IntKind.wrap .i64 (x.2.2.2+1)))))
 else none
 else
 k (.inr (.inr (x.1,x.2.1,x.2.2.1,x.2.2.2)))
instance n34n_bp0 (x:q8T):ParC (vix x):=by unfold vix;(try dsimp only);infer_instance
def v2c (a0:(List dTxn))(a1:Int)(k:Int→Option Res):Option Res:=
 bif (decide ((IntKind.wrap .i64 (a1-(a0.length:Int)))<(0:Int)))then
 k (-1:Int)
 else
 vac vix Fuel (a0,(IntKind.wrap .i64 (a1-(a0.length:Int))),0,0) (Sum.elim (fun z1=>
 k z1.2.2.1) (fun z2=>
 k z2.2.1))
def vnr:=shut v2c
theorem v4y:vnr=v2c:=vai _
instance n34n_p (a0:(List dTxn))(a1:Int):ParC (vnr a0 a1):=by rw [v4y];unfold v2c;(try dsimp only);infer_instance
def v1i (a0:vcn)(a1:Int)(k:Int→Option Res):Option Res:=
 vww a0.1 a1 (fun y1=>
 bif (decide (y1<0))then
 k (-1:Int)
 else
 vnr a0.2.1 y1 (fun y2=>
 bif (decide (y2<0))then
 k (-1:Int)
 else
 vnr a0.2.2.1 y2 (fun y3=>
 bif (decide (y3<0))then
 k (-1:Int)
 else
 k y3)))
def vt3:=shut v1i
theorem v5n:vt3=v1i:=vai _
instance n30n_p (a0:vcn)(a1:Int):ParC (vt3 a0 a1):=by rw [v5n];unfold v1i;(try dsimp only);infer_instance
def v7w (a0:vaa)(k:q21T→Option Res):Option Res:=
 k (a0.1,a0.2.1,a0.2.2.1,a0.2.2.2)
def vtv:=shut v7w
theorem v5j:vtv=v7w:=vai _
instance n44n_p (a0:vaa):ParC (vtv a0):=by rw [v5j];unfold v7w;(try dsimp only);infer_instance
def vh2 (x:q14T)(k:q14T⊕q14T→Option Res):Option Res:=
 bif (decide (x.2.1<(x.1.length:Int)))then
 if 0≤x.2.1∧x.2.1<(x.1.length:Int)then
 vtv (rd (Ty.zero tVersion) x.1 x.2.1) (fun y2=>
 if 0≤x.2.1∧x.2.1<(x.2.2.length:Int)then
 k (.inl (x.1,(IntKind.wrap .i64 (x.2.1+1)),(x.2.2.set x.2.1.toNat y2)))
 else none)
 else none
 else
 k (.inr (x.1,x.2.1,x.2.2))
instance n45n_bp0 (x:q14T):ParC (vh2 x):=by unfold vh2;(try dsimp only);infer_instance
def v07 (a0:(List vaa))(k:(List vaa)→Option Res):Option Res:=
 if 0≤(a0.length:Int)∧(a0.length:Int)≤(a0.length:Int)∧(a0.length:Int)≤(VE.maxLen:Int)then
 vac vh2 Fuel (a0,0,(List.replicate (a0.length:Int).toNat (Ty.zero tVersion))) (fun z1=>
 k z1.2.2)
 else none
def vtx:=shut v07
theorem v6a:vtx=v07:=vai _
instance n45n_p (a0:(List vaa)):ParC (vtx a0):=by rw [v6a];unfold v07;(try dsimp only);infer_instance
def v7q (a0:vaj)(k:(ByteArray×ByteArray)→Option Res):Option Res:=
 k (a0.1,a0.2)
def vr5:=shut v7q
theorem v6h:vr5=v7q:=vai _
instance n40n_p (a0:vaj):ParC (vr5 a0):=by rw [v6h];unfold v7q;(try dsimp only);infer_instance
def vjb (x:q1T)(k:q1T⊕q1T→Option Res):Option Res:=
 bif (decide (x.2.1<(x.1.length:Int)))then
 if 0≤x.2.1∧x.2.1<(x.1.length:Int)then
 vr5 (rd (Ty.zero tRange) x.1 x.2.1) (fun y2=>
 if 0≤x.2.1∧x.2.1<(x.2.2.length:Int)then
 k (.inl (x.1,(IntKind.wrap .i64 (x.2.1+1)),(x.2.2.set x.2.1.toNat y2)))
 else none)
 else none
 else
 k (.inr (x.1,x.2.1,x.2.2))
instance n41n_bp0 (x:q1T):ParC (vjb x):=by unfold vjb;(try dsimp only);infer_instance
def v2o (a0:(List vaj))(k:(List vaj)→Option Res):Option Res:=
 if 0≤(a0.length:Int)∧(a0.length:Int)≤(a0.length:Int)∧(a0.length:Int)≤(VE.maxLen:Int)then
 vac vjb Fuel (a0,0,(List.replicate (a0.length:Int).toNat (Ty.zero tRange))) (fun z1=>
 k z1.2.2)
 else none
def vt9:=shut v2o
theorem v5w:vt9=v2o:=vai _
instance n41n_p (a0:(List vaj)):ParC (vt9 a0):=by rw [v5w];unfold v2o;(try dsimp only);infer_instance
def v42 (a0:vak)(k:(ByteArray×ByteArray×Bool)→Option Res):Option Res:=
 k (a0.1,a0.2.1,a0.2.2)
def vsf:=shut v42
theorem v6m:vsf=v42:=vai _
instance n46n_p (a0:vak):ParC (vsf a0):=by rw [v6m];unfold v42;(try dsimp only);infer_instance
def vh0 (x:q19T)(k:q19T⊕q19T→Option Res):Option Res:=
 bif (decide (x.2.1<(x.1.length:Int)))then
 if 0≤x.2.1∧x.2.1<(x.1.length:Int)then
 vsf (rd (Ty.zero tWrite) x.1 x.2.1) (fun y2=>
 if 0≤x.2.1∧x.2.1<(x.2.2.length:Int)then
 k (.inl (x.1,(IntKind.wrap .i64 (x.2.1+1)),(x.2.2.set x.2.1.toNat y2)))
 else none)
 else none
 else
 k (.inr (x.1,x.2.1,x.2.2))
instance n47n_bp0 (x:q19T):ParC (vh0 x):=by unfold vh0;(try dsimp only);infer_instance
def v12 (a0:(List vak))(k:(List vak)→Option Res):Option Res:=
 if 0≤(a0.length:Int)∧(a0.length:Int)≤(a0.length:Int)∧(a0.length:Int)≤(VE.maxLen:Int)then
 vac vh0 Fuel (a0,0,(List.replicate (a0.length:Int).toNat (Ty.zero tWrite))) (fun z1=>
 k z1.2.2)
 else none
def vsa:=shut v12
theorem v5a:vsa=v12:=vai _
instance n47n_p (a0:(List vak)):ParC (vsa a0):=by rw [v5a];unfold v12;(try dsimp only);infer_instance
def v2m (a0:dTxn)(k:q31T→Option Res):Option Res:=
 vt9 a0.2.2.2.2.1 (fun y1=>
 vsa a0.2.2.2.2.2.1 (fun y2=>
 k (a0.1,a0.2.1,a0.2.2.1,a0.2.2.2.1,a0.2.2.2.2.2.2.1,a0.2.2.2.2.2.2.2,y1,y2)))
def vpm:=shut v2m
theorem v4i:vpm=v2m:=vai _
instance n42n_p (a0:dTxn):ParC (vpm a0):=by rw [v4i];unfold v2m;(try dsimp only);infer_instance
def vis (x:q5T)(k:q5T⊕q5T→Option Res):Option Res:=
 bif (decide (x.2.1<(x.1.length:Int)))then
 if 0≤x.2.1∧x.2.1<(x.1.length:Int)then
 vpm (rd (Ty.zero tTxn) x.1 x.2.1) (fun y2=>
 if 0≤x.2.1∧x.2.1<(x.2.2.length:Int)then
 k (.inl (x.1,(IntKind.wrap .i64 (x.2.1+1)),(x.2.2.set x.2.1.toNat (y2.1,(y2.2.1,(y2.2.2.1,(y2.2.2.2.1,(y2.2.2.2.2.2.2.1,(y2.2.2.2.2.2.2.2,(y2.2.2.2.2.1,y2.2.2.2.2.2.1))))))))))
 else none)
 else none
 else
 k (.inr (x.1,x.2.1,x.2.2))
instance n43n_bp0 (x:q5T):ParC (vis x):=by unfold vis;(try dsimp only);infer_instance
def v2k (a0:(List dTxn))(k:(List dTxn)→Option Res):Option Res:=
 if 0≤(a0.length:Int)∧(a0.length:Int)≤(a0.length:Int)∧(a0.length:Int)≤(VE.maxLen:Int)then
 vac vis Fuel (a0,0,(List.replicate (a0.length:Int).toNat (Ty.zero tTxn))) (fun z1=>
 k z1.2.2)
 else none
def veo:=shut v2k
theorem v6i:veo=v2k:=vai _
instance n43n_p (a0:(List dTxn)):ParC (veo a0):=by rw [v6i];unfold v2k;(try dsimp only);infer_instance
def v02 (a0:vcn)(k:q26T→Option Res):Option Res:=
 vtx a0.1 (fun y1=>
 veo a0.2.1 (fun y2=>
 veo a0.2.2.1 (fun y3=>
 k (a0.2.2.2.1,a0.2.2.2.2,y1,y2,y3))))
def vgn:=shut v02
theorem v6w:vgn=v02:=vai _
instance n39n_p (a0:vcn):ParC (vgn a0):=by rw [v6w];unfold v02;(try dsimp only);infer_instance
def v1m (a0:dTxn)(k:q31T→Option Res):Option Res:=
 if([]:List vaj).length+a0.2.2.2.2.1.length≤VE.maxLen then
 if([]:List vak).length+a0.2.2.2.2.2.1.length≤VE.maxLen then
 k (a0.1,a0.2.1,a0.2.2.1,a0.2.2.2.1,a0.2.2.2.2.2.2.1,a0.2.2.2.2.2.2.2,(([]:List vaj)++a0.2.2.2.2.1),(([]:List vak)++a0.2.2.2.2.2.1))
 else none
 else none
def vnl:=shut v1m
theorem v7j:vnl=v1m:=vai _
instance n54n_p (a0:dTxn):ParC (vnl a0):=by rw [v7j];unfold v1m;(try dsimp only);infer_instance
def vif (x:q5T)(k:q5T⊕q5T→Option Res):Option Res:=
 bif (decide (x.2.1<(x.1.length:Int)))then
 if 0≤x.2.1∧x.2.1<(x.1.length:Int)then
 vnl (rd (Ty.zero tTxn) x.1 x.2.1) (fun y2=>
 if x.2.2.length+[(y2.1,(y2.2.1,(y2.2.2.1,(y2.2.2.2.1,(y2.2.2.2.2.2.2.1,(y2.2.2.2.2.2.2.2,(y2.2.2.2.2.1,y2.2.2.2.2.2.1)))))))].length≤VE.maxLen then
 k (.inl (x.1,(IntKind.wrap .i64 (x.2.1+(1:Int))),(x.2.2++[(y2.1,(y2.2.1,(y2.2.2.1,(y2.2.2.2.1,(y2.2.2.2.2.2.2.1,(y2.2.2.2.2.2.2.2,(y2.2.2.2.2.1,y2.2.2.2.2.2.1)))))))])))
 else none)
 else none
 else
 k (.inr (x.1,x.2.1,x.2.2))
instance n56n_bp0 (x:q5T):ParC (vif x):=by unfold vif;(try dsimp only);infer_instance
def v2q (a0:(List dTxn))(k:(List dTxn)→Option Res):Option Res:=
 vac vif Fuel (a0,0,([]:List dTxn)) (fun z1=>
 k z1.2.2)
def vpu:=shut v2q
theorem v48:vpu=v2q:=vai _
instance n56n_p (a0:(List dTxn)):ParC (vpu a0):=by rw [v48];unfold v2q;(try dsimp only);infer_instance
def v0h (a0:vcn)(k:q26T→Option Res):Option Res:=
 if([]:List vaa).length+a0.1.length≤VE.maxLen then
 vpu a0.2.1 (fun y1=>
 vpu a0.2.2.1 (fun y2=>
 k (a0.2.2.2.1,a0.2.2.2.2,(([]:List vaa)++a0.1),y1,y2)))
 else none
def vs9:=shut v0h
theorem v67:vs9=v0h:=vai _
instance n55n_p (a0:vcn):ParC (vs9 a0):=by rw [v67];unfold v0h;(try dsimp only);infer_instance
def vi4 (x:((List dTxn)×Int×Int))(k:((List dTxn)×Int×Int)⊕((List dTxn)×Int×Int)→Option Res):Option Res:=
 bif (decide (x.2.2<(x.1.length:Int)))then
 if 0≤x.2.2∧x.2.2<(x.1.length:Int)then
 bif (decide ((rd (Ty.zero tTxn) x.1 x.2.2).2.2.1<x.2.1))then
 if 0≤x.2.2∧x.2.2<(x.1.length:Int)then
 k (.inl (x.1,(rd (Ty.zero tTxn) x.1 x.2.2).2.2.1,(IntKind.wrap .i64 (x.2.2+1))))
 else none
 else
 k (.inl (x.1,x.2.1,(IntKind.wrap .i64 (x.2.2+1))))
 else none
 else
 k (.inr (x.1,x.2.1,x.2.2))
instance n50n_bp0 (x:((List dTxn)×Int×Int)):ParC (vi4 x):=by unfold vi4;(try dsimp only);infer_instance
def v2t (a0:vcn)(a1:(List dTxn))(k:Int→Option Res):Option Res:=
 vac vi4 Fuel (a1,a0.2.2.2.1,0) (fun z1=>
 k z1.2.1)
def vp8:=shut v2t
theorem v6g:vp8=v2t:=vai _
instance n50n_p (a0:vcn)(a1:(List dTxn)):ParC (vp8 a0 a1):=by rw [v6g];unfold v2t;(try dsimp only);infer_instance
def vh3 (x:q11T)(k:q11T⊕q11T→Option Res):Option Res:=
 let t0:=(IntKind.wrap .i64 (x.2.2.2.2+(1:Int)))
 bif (decide (x.2.2.2.2<(x.1.length:Int)))then
 if 0≤x.2.2.2.2∧x.2.2.2.2<(x.1.length:Int)then
 bif (vbh ((rd (Ty.zero tVersion) x.1 x.2.2.2.2).1) x.2.1)then
 if 0≤x.2.2.2.2∧x.2.2.2.2<(x.1.length:Int)then
 bif (decide ((rd (Ty.zero tVersion) x.1 x.2.2.2.2).2.2.2≤x.2.2.1))then
 bif (decide (x.2.2.2.1<0))then
 k (.inl (x.1,x.2.1,x.2.2.1,x.2.2.2.2,t0))
 else
 if 0≤x.2.2.2.2∧x.2.2.2.2<(x.1.length:Int)then
 if 0≤x.2.2.2.1∧x.2.2.2.1<(x.1.length:Int)then
 bif (decide ((rd (Ty.zero tVersion) x.1 x.2.2.2.2).2.2.2>(rd (Ty.zero tVersion) x.1 x.2.2.2.1).2.2.2))then
 k (.inl (x.1,x.2.1,x.2.2.1,x.2.2.2.2,t0))
 else
 k (.inl (x.1,x.2.1,x.2.2.1,x.2.2.2.1,t0))
 else none
 else none
 else
 k (.inl (x.1,x.2.1,x.2.2.1,x.2.2.2.1,t0))
 else none
 else
 k (.inl (x.1,x.2.1,x.2.2.1,x.2.2.2.1,t0))
 else none
 else
 k (.inr (x.1,x.2.1,x.2.2.1,x.2.2.2.1,x.2.2.2.2))
instance n53n_bp0 (x:q11T):ParC (vh3 x):=by unfold vh3;(try dsimp only);infer_instance
def v15 (a0:(List vaa))(a1:ByteArray)(a2:Int)(k:Int→Option Res):Option Res:=
 vac vh3 Fuel (a0,a1,a2,(-1:Int),0) (fun z1=>
 k z1.2.2.2.1)
def vra:=shut v15
theorem v4h:vra=v15:=vai _
instance n53n_p (a0:(List vaa))(a1:ByteArray)(a2:Int):ParC (vra a0 a1 a2):=by rw [v4h];unfold v15;(try dsimp only);infer_instance
def vbu (x:q16T)(k:q16T→Option Res):Option Res:=
 bif x.2.2.2.1 then
 if 0≤x.2.2.1∧x.2.2.1<(x.1.length:Int)then
 if x.2.2.2.2.length+[(rd (Ty.zero tVersion) x.1 x.2.2.1)].length≤VE.maxLen then
 k (x.1,x.2.1,x.2.2.1,x.2.2.2.1,(x.2.2.2.2++[(rd (Ty.zero tVersion) x.1 x.2.2.1)]))
 else none
 else none
 else
 k (x.1,x.2.1,x.2.2.1,x.2.2.2.1,x.2.2.2.2)
instance n52n_jp15000007 (x:q16T):ParC (vbu x):=by unfold vbu;(try dsimp only);infer_instance
def vi3 (x:q15T)(k:q15T⊕q15T→Option Res):Option Res:=
 bif (decide (x.2.2.1<(x.1.length:Int)))then
 if 0≤x.2.2.1∧x.2.2.1<(x.1.length:Int)then
 vra x.1 ((rd (Ty.zero tVersion) x.1 x.2.2.1).1) x.2.1 (fun y3=>
 if 0≤x.2.2.1∧x.2.2.1<(x.1.length:Int)then
 bif (decide ((rd (Ty.zero tVersion) x.1 x.2.2.1).2.2.2>x.2.1))then
 vbu (x.1,x.2.1,x.2.2.1,true,x.2.2.2) (fun z4=>
 k (.inl (z4.1,z4.2.1,(IntKind.wrap .i64 (z4.2.2.1+1)),z4.2.2.2.2)))
 else
 vbu (x.1,x.2.1,x.2.2.1,(y3==x.2.2.1),x.2.2.2) (fun z5=>
 k (.inl (z5.1,z5.2.1,(IntKind.wrap .i64 (z5.2.2.1+1)),z5.2.2.2.2)))
 else none)
 else none
 else
 k (.inr (x.1,x.2.1,x.2.2.1,x.2.2.2))
instance n52n_bp0 (x:q15T):ParC (vi3 x):=by unfold vi3;(try dsimp only);infer_instance
def vbm (x:q28T)(k:q28T→Option Res):Option Res:=
 bif x.2.2.1 then
 if 0≤x.2.1∧x.2.1<(x.2.2.2.1.length:Int)then
 if x.2.2.2.2.length+[(x.2.2.2.1.getD x.2.1.toNat (Ty.zero tVersion))].length≤VE.maxLen then
 k (x.1,x.2.1,x.2.2.1,x.2.2.2.1,(x.2.2.2.2++[(x.2.2.2.1.getD x.2.1.toNat (Ty.zero tVersion))]))
 else none
 else none
 else
 k (x.1,x.2.1,x.2.2.1,x.2.2.2.1,x.2.2.2.2)
instance n52n_jp15000019 (x:q28T):ParC (vbm x):=by unfold vbm;(try dsimp only);infer_instance
def vi5 (x:q30T)(k:q30T⊕q30T→Option Res):Option Res:=
 bif (decide (x.2.2.2.1<(x.2.2.2.2.1.length:Int)))then
 if 0≤x.2.2.2.1∧x.2.2.2.1<(x.2.2.2.2.1.length:Int)then
 if 0≤x.2.1∧x.2.1<(x.2.2.2.2.1.length:Int)then
 bif (vbh ((x.2.2.2.2.1.getD x.2.2.2.1.toNat (Ty.zero tVersion)).1) ((x.2.2.2.2.1.getD x.2.1.toNat (Ty.zero tVersion)).1))then
 k (.inl (x.1,x.2.1,(IntKind.wrap .i64 (x.2.2.1+1)),(IntKind.wrap .i64 (x.2.2.2.1+1)),x.2.2.2.2.1,x.2.2.2.2.2))
 else
 k (.inl (x.1,x.2.1,x.2.2.1,(IntKind.wrap .i64 (x.2.2.2.1+1)),x.2.2.2.2.1,x.2.2.2.2.2))
 else none
 else none
 else
 k (.inr (x.1,x.2.1,x.2.2.1,x.2.2.2.1,x.2.2.2.2.1,x.2.2.2.2.2))
instance n52n_bp4 (x:q30T):ParC (vi5 x):=by unfold vi5;(try dsimp only);infer_instance
def vhb (x:q27T)(k:q27T⊕q27T→Option Res):Option Res:=
 bif (decide (x.2.1<(x.2.2.1.length:Int)))then
 vac vi5 Fuel (x.1,x.2.1,0,0,x.2.2.1,x.2.2.2) (fun z6=>
 if 0≤z6.2.1∧z6.2.1<(z6.2.2.2.2.1.length:Int)then
 bif (!(z6.2.2.2.2.1.getD z6.2.1.toNat (Ty.zero tVersion)).2.2.1)then
 vbm (z6.1,z6.2.1,true,z6.2.2.2.2.1,z6.2.2.2.2.2) (fun z7=>
 k (.inl (z7.1,(IntKind.wrap .i64 (z7.2.1+1)),z7.2.2.2.1,z7.2.2.2.2)))
 else
 if 0≤z6.2.1∧z6.2.1<(z6.2.2.2.2.1.length:Int)then
 bif (decide ((z6.2.2.2.2.1.getD z6.2.1.toNat (Ty.zero tVersion)).2.2.2>z6.1))then
 vbm (z6.1,z6.2.1,true,z6.2.2.2.2.1,z6.2.2.2.2.2) (fun z8=>
 k (.inl (z8.1,(IntKind.wrap .i64 (z8.2.1+1)),z8.2.2.2.1,z8.2.2.2.2)))
 else
 vbm (z6.1,z6.2.1,(decide (z6.2.2.1>1)),z6.2.2.2.2.1,z6.2.2.2.2.2) (fun z9=>
 k (.inl (z9.1,(IntKind.wrap .i64 (z9.2.1+1)),z9.2.2.2.1,z9.2.2.2.2)))
 else none
 else none)
 else
 k (.inr (x.1,x.2.1,x.2.2.1,x.2.2.2))
instance n52n_bp2 (x:q27T):ParC (vhb x):=by unfold vhb;(try dsimp only);exact⟨(vbd ((voq (fun x=>(n52n_bp4 x).p) _ _).bind fun z6=>(vcv (vbd ((n52n_jp15000019 _).p.bind fun z7=>(vat _)) (vcv (vbd ((n52n_jp15000019 _).p.bind fun z8=>(vat _)) ((n52n_jp15000019 _).p.bind fun z9=>(vat _))) vbp)) vbp)) (vat _))⟩
def v1e (a0:(List vaa))(a1:Int)(k:(List vaa)→Option Res):Option Res:=
 vac vi3 Fuel (a0,a1,0,([]:List vaa)) (fun z1=>
 vac vhb Fuel (z1.2.1,0,z1.2.2.2,([]:List vaa)) (fun z2=>
 k z2.2.2.2))
def vo7:=shut v1e
theorem v70:vo7=v1e:=vai _
instance n52n_p (a0:(List vaa))(a1:Int):ParC (vo7 a0 a1):=by rw [v70];unfold v1e;(try dsimp only);infer_instance
def vil (x:q25T)(k:q25T⊕q25T→Option Res):Option Res:=
 let xh:=x.2.2.2.2.2.2.2.2
 bif (decide (x.2.1<(x.2.2.2.1.length:Int)))then
 if 0≤x.2.1∧x.2.1<(x.2.2.2.1.length:Int)then
 bif (decide ((rd (Ty.zero tTxn) x.2.2.2.1 x.2.1).2.2.2.1>x.1))then
 if 0≤x.2.1∧x.2.1<(x.2.2.2.1.length:Int)then
 vnl (rd (Ty.zero tTxn) x.2.2.2.1 x.2.1) (fun y5=>
 if xh.2.2.2.2.1.length+[(y5.1,(y5.2.1,(y5.2.2.1,(y5.2.2.2.1,(y5.2.2.2.2.2.2.1,(y5.2.2.2.2.2.2.2,(y5.2.2.2.2.1,y5.2.2.2.2.2.1)))))))].length≤VE.maxLen then
 k (.inl (x.1,(IntKind.wrap .i64 (x.2.1+(1:Int))),x.2.2.1,x.2.2.2.1,x.2.2.2.2.1,x.2.2.2.2.2.1,x.2.2.2.2.2.2.1,x.2.2.2.2.2.2.2.1,xh.1,xh.2.1,xh.2.2.1,xh.2.2.2.1,(xh.2.2.2.2.1++[(y5.1,(y5.2.1,(y5.2.2.1,(y5.2.2.2.1,(y5.2.2.2.2.2.2.1,(y5.2.2.2.2.2.2.2,(y5.2.2.2.2.1,y5.2.2.2.2.2.1)))))))]),xh.2.2.2.2.2))
 else none)
 else none
 else
 k (.inl (x.1,(IntKind.wrap .i64 (x.2.1+1)),x.2.2.1,x.2.2.2.1,x.2.2.2.2.1,x.2.2.2.2.2.1,x.2.2.2.2.2.2.1,x.2.2.2.2.2.2.2.1,xh.1,xh.2.1,xh.2.2.1,xh.2.2.2.1,xh.2.2.2.2.1,xh.2.2.2.2.2))
 else none
 else
 k (.inr (x.1,x.2.1,x.2.2.1,x.2.2.2.1,x.2.2.2.2.1,x.2.2.2.2.2.1,x.2.2.2.2.2.2.1,x.2.2.2.2.2.2.2.1,xh.1,xh.2.1,xh.2.2.1,xh.2.2.2.1,xh.2.2.2.2.1,xh.2.2.2.2.2))
instance n51n_bp0 (x:q25T):ParC (vil x):=by unfold vil;(try dsimp only);infer_instance
def v0o (a0:vcn)(a1:(List dTxn))(k:q26T→Option Res):Option Res:=
 vs9 a0 (fun y1=>
 vp8 a0 a1 (fun y2=>
 vac vil Fuel (y2,0,a0.1,a0.2.1,a0.2.2.1,a0.2.2.2.1,a0.2.2.2.2,0,0,y1.1,y1.2.1,y1.2.2.1,([]:List dTxn),y1.2.2.2.2) (fun z3=>
 let z3h:=z3.2.2.2.2.2.2.2.2
 vo7 z3.2.2.1 z3.1 (fun y4=>
 k (z3h.2.1,z3h.2.2.1,y4,z3h.2.2.2.2.1,z3h.2.2.2.2.2)))))
def vpg:=shut v0o
theorem v4g:vpg=v0o:=vai _
instance n51n_p (a0:vcn)(a1:(List dTxn)):ParC (vpg a0 a1):=by rw [v4g];unfold v0o;(try dsimp only);infer_instance
def v0y (a0:dTxn)(k:q31T→Option Res):Option Res:=
 if a0.2.2.2.2.1.length≤VE.maxLen then
 if a0.2.2.2.2.2.1.length≤VE.maxLen then
 k (a0.1,a0.2.1,a0.2.2.1,a0.2.2.2.1,a0.2.2.2.2.2.2.1,a0.2.2.2.2.2.2.2,a0.2.2.2.2.1,a0.2.2.2.2.2.1)
 else none
 else none
def vtn:=shut v0y
theorem v5h:vtn=v0y:=vai _
instance n06n_p (a0:dTxn):ParC (vtn a0):=by rw [v5h];unfold v0y;(try dsimp only);infer_instance
def viv (x:q6T)(k:q6T⊕q6T→Option Res):Option Res:=
 bif (decide (x.2.2.1<x.2.1))then
 if 0≤x.2.2.1∧x.2.2.1<(x.1.length:Int)then
 vtn (rd (Ty.zero tTxn) x.1 x.2.2.1) (fun y2=>
 if x.2.2.2.length+[(y2.1,(y2.2.1,(y2.2.2.1,(y2.2.2.2.1,(y2.2.2.2.2.2.2.1,(y2.2.2.2.2.2.2.2,(y2.2.2.2.2.1,y2.2.2.2.2.2.1)))))))].length≤VE.maxLen then
 k (.inl (x.1,x.2.1,(IntKind.wrap .i64 (x.2.2.1+(1:Int))),(x.2.2.2++[(y2.1,(y2.2.1,(y2.2.2.1,(y2.2.2.2.1,(y2.2.2.2.2.2.2.1,(y2.2.2.2.2.2.2.2,(y2.2.2.2.2.1,y2.2.2.2.2.2.1)))))))])))
 else none)
 else none
 else
 k (.inr (x.1,x.2.1,x.2.2.1,x.2.2.2))
instance n07n_bp0 (x:q6T):ParC (viv x):=by unfold viv;(try dsimp only);infer_instance
def v2b (a0:(List dTxn))(k:(List dTxn)→Option Res):Option Res:=
 vac viv Fuel (a0,(a0.length:Int),0,([]:List dTxn)) (fun z1=>
 k z1.2.2.2)
def vo8:=shut v2b
theorem v4o:vo8=v2b:=vai _
instance n07n_p (a0:(List dTxn)):ParC (vo8 a0):=by rw [v4o];unfold v2b;(try dsimp only);infer_instance
def v2p (a0:vcn)(k:q26T→Option Res):Option Res:=
 if a0.1.length≤VE.maxLen then
 vo8 a0.2.1 (fun y1=>
 vo8 a0.2.2.1 (fun y2=>
 k (a0.2.2.2.1,a0.2.2.2.2,a0.1,y1,y2)))
 else none
def vwq:=shut v2p
theorem v6n:vwq=v2p:=vai _
instance n05n_p (a0:vcn):ParC (vwq a0):=by rw [v6n];unfold v2p;(try dsimp only);infer_instance
def vji (x:q23T)(k:q23T⊕q23T→Option Res):Option Res:=
 bif (decide (x.2.2.2<x.2.2.1))then
 if 0≤x.2.2.2∧x.2.2.2<(x.2.1.length:Int)then
 k (.inl ((if(rd (Ty.zero tTxn) x.2.1 x.2.2.2).2.2.1<x.1 then(rd (Ty.zero tTxn) x.2.1 x.2.2.2).2.2.1 else x.1),x.2.1,x.2.2.1,(IntKind.wrap .i64 (x.2.2.2+1))))
 else none
 else
 k (.inr (x.1,x.2.1,x.2.2.1,x.2.2.2))
instance n00n_bp0 (x:q23T):ParC (vji x):=by unfold vji;(try dsimp only);infer_instance
def v16 (a0:vcn)(a1:(List dTxn))(k:Int→Option Res):Option Res:=
 vac vji Fuel (a0.2.2.2.1,a1,(a1.length:Int),0) (fun z1=>
 k z1.1)
def vr6:=shut v16
theorem v64:vr6=v16:=vai _
instance n00n_p (a0:vcn)(a1:(List dTxn)):ParC (vr6 a0 a1):=by rw [v64];unfold v16;(try dsimp only);infer_instance
def v6c (a0:dTxn)(a1:Int)(k:(Bool×Int)→Option Res):Option Res:=
 k ((decide (a0.2.2.2.1≤a1)),a1)
def vno:=shut v6c
theorem v68:vno=v6c:=vai _
instance n02n_p (a0:dTxn)(a1:Int):ParC (vno a0 a1):=by rw [v68];unfold v6c;(try dsimp only);infer_instance
def vh8 (x:q7T)(k:q7T⊕(q7T⊕q7T)→Option Res):Option Res:=
 bif (decide (x.2.2.2.1<x.2.2.1))then
 if 0≤x.2.2.2.1∧x.2.2.2.1<(x.1.length:Int)then
 vno (rd (Ty.zero tTxn) x.1 x.2.2.2.1) x.2.2.2.2 (fun y3=>
 bif y3.1 then
 k (.inr (.inl (x.1,x.2.2.2.1,x.2.2.1,x.2.2.2.1,y3.2)))
 else
 k (.inl (x.1,x.2.1,x.2.2.1,(IntKind.wrap .i64 (x.2.2.2.1+1)),y3.2)))
 else none
 else
 k (.inr (.inr (x.1,x.2.1,x.2.2.1,x.2.2.2.1,x.2.2.2.2)))
instance n49n_bp0 (x:q7T):ParC (vh8 x):=by unfold vh8;(try dsimp only);infer_instance
def v1g (a0:(List dTxn))(a1:Int)(k:(Int×Int)→Option Res):Option Res:=
 vac vh8 Fuel (a0,0,(a0.length:Int),0,a1) (Sum.elim (fun z1=>
 k (z1.2.1,z1.2.2.2.2)) (fun z2=>
 k ((-1:Int),z2.2.2.2.2)))
def vo4:=shut v1g
theorem v50:vo4=v1g:=vai _
instance n49n_p (a0:(List dTxn))(a1:Int):ParC (vo4 a0 a1):=by rw [v50];unfold v1g;(try dsimp only);infer_instance
def vev (x:((Int×Int×(List dTxn)×(List Nat)×Int)⊕(Int×Int×(List dTxn)×(List Nat)×Int)))(k:((Int×Int×(List dTxn)×(List Nat)×Int)⊕(Int×Int×(List dTxn)×(List Nat)×Int))⊕((Int×Int×(List dTxn)×(List Nat)×Int)⊕(Int×Int×(List dTxn)×(List Nat)×Int))→Option Res):Option Res:=
 (Sum.elim (fun x=>
 bif (decide (x.2.1<(x.2.2.1.length:Int)))then
 if 0≤x.2.1∧x.2.1<(x.2.2.1.length:Int)then
 bif (hasD x.2.2.2.1 x.2.1.toNat)then
 none
 else
 vno (x.2.2.1.getD x.2.1.toNat (Ty.zero tTxn)) x.2.2.2.2 (fun y4=>
 bif (!y4.1)then
 if 0≤x.1∧x.1<(x.2.2.1.length:Int)then
 k (.inl (.inr ((IntKind.wrap .i64 (x.1+1)),(IntKind.wrap .i64 (x.2.1+1)),(x.2.2.1.set x.1.toNat (x.2.2.1.getD x.2.1.toNat (Ty.zero tTxn))),(x.2.1.toNat::(x.2.1.toNat::(delD x.1.toNat x.2.2.2.1))),y4.2)))
 else none
 else
 k (.inl (.inl (x.1,(IntKind.wrap .i64 (x.2.1+1)),x.2.2.1,x.2.2.2.1,y4.2))))
 else none
 else
 k (.inr (.inl (x.1,x.2.1,x.2.2.1,x.2.2.2.1,x.2.2.2.2)))) (fun x=>
 bif (decide (x.2.1<(x.2.2.1.length:Int)))then
 if 0≤x.2.1∧x.2.1<(x.2.2.1.length:Int)then
 bif (hasD x.2.2.2.1 x.2.1.toNat)then
 none
 else
 vno (x.2.2.1.getD x.2.1.toNat (Ty.zero tTxn)) x.2.2.2.2 (fun y5=>
 bif (!y5.1)then
 if 0≤x.1∧x.1<(x.2.2.1.length:Int)then
 k (.inl (.inr ((IntKind.wrap .i64 (x.1+1)),(IntKind.wrap .i64 (x.2.1+1)),(x.2.2.1.set x.1.toNat (x.2.2.1.getD x.2.1.toNat (Ty.zero tTxn))),(x.2.1.toNat::(x.2.1.toNat::(delD x.1.toNat x.2.2.2.1))),y5.2)))
 else none
 else
 k (.inl (.inr (x.1,(IntKind.wrap .i64 (x.2.1+1)),x.2.2.1,x.2.2.2.1,y5.2))))
 else none
 else
 k (.inr (.inr (x.1,x.2.1,x.2.2.1,x.2.2.2.1,x.2.2.2.2))))) x
instance n48n_bp0 (x:((Int×Int×(List dTxn)×(List Nat)×Int)⊕(Int×Int×(List dTxn)×(List Nat)×Int))):ParC (vev x):=by
 unfold vev
 rcases x with x|x
 ·simp only [Sum.elim_inl]
  infer_instance
 ·simp only [Sum.elim_inr]
  (try dsimp only)
  infer_instance
def v1n (a0:(List dTxn))(a1:Int)(k:(((List dTxn)×Int)⊕(Int×(List dTxn)))→Option Res):Option Res:=
 vo4 a0 a1 (fun y1=>
 bif (y1.1==(-1:Int))then
 k (.inl (a0,y1.2))
 else
 vac vev Fuel (.inl (y1.1,(IntKind.wrap .i64 (y1.1+1)),a0,([]:List Nat),y1.2)) (Sum.elim (fun z2=>
 if 0≤z2.1∧z2.1≤(z2.2.2.1.length:Int)then
 if 0≤z2.1∧z2.1≤((z2.2.2.1.take z2.1.toNat++List.replicate (z2.2.2.1.length-z2.1.toNat) (Ty.zero tTxn)).length:Int)then
 bif (geD z2.1.toNat (loD z2.1.toNat z2.2.2.2.1))then
 k (.inr (z2.2.2.2.2,((z2.2.2.1.take z2.1.toNat++List.replicate (z2.2.2.1.length-z2.1.toNat) (Ty.zero tTxn)).take z2.1.toNat)))
 else
 none
 else none
 else none) (fun z3=>
 if 0≤z3.1∧z3.1≤(z3.2.2.1.length:Int)then
 if 0≤z3.1∧z3.1≤((z3.2.2.1.take z3.1.toNat++List.replicate (z3.2.2.1.length-z3.1.toNat) (Ty.zero tTxn)).length:Int)then
 bif (geD z3.1.toNat (loD z3.1.toNat z3.2.2.2.1))then
 k (.inr (z3.2.2.2.2,((z3.2.2.1.take z3.1.toNat++List.replicate (z3.2.2.1.length-z3.1.toNat) (Ty.zero tTxn)).take z3.1.toNat)))
 else
 none
 else none
 else none)))
def vsy:=shut v1n
theorem v5z:vsy=v1n:=vai _
instance n48n_p (a0:(List dTxn))(a1:Int):ParC (vsy a0 a1):=by rw [v5z];unfold v1n;(try dsimp only);exact⟨((n49n_p _ _).p.bind fun y1=>(vbd (vat _) ((voq (fun x=>(n48n_bp0 x).p) _ _).bind2 (fun z2=>(vcv (vcv (vbd (vat _) vbp) vbp) vbp)) (fun z3=>(vcv (vcv (vbd (vat _) vbp) vbp) vbp)))))⟩
def vh5 (x:q10T)(k:q10T⊕q10T→Option Res):Option Res:=
 let t0:=(x.1,x.2.1,x.2.2.1,x.2.2.2.1,x.2.2.2.2.1,x.2.2.2.2.2.1,(IntKind.wrap .i64 (x.2.2.2.2.2.2+(1:Int))))
 bif (decide (x.2.2.2.2.2.2<x.2.2.2.2.2.1))then
 if 0≤x.2.2.2.2.2.2∧x.2.2.2.2.2.2<(x.2.2.2.2.1.length:Int)then
 bif (vbh ((rd (Ty.zero tVersion) x.2.2.2.2.1 x.2.2.2.2.2.2).1) x.2.1)then
 bif (decide ((rd (Ty.zero tVersion) x.2.2.2.2.1 x.2.2.2.2.2.2).2.2.2≤x.2.2.1))then
 bif (decide (x.2.2.2.1<0))then
 k (.inl (x.1,x.2.1,x.2.2.1,x.2.2.2.2.2.2,x.2.2.2.2.1,x.2.2.2.2.2.1,(IntKind.wrap .i64 (x.2.2.2.2.2.2+1))))
 else
 if 0≤x.2.2.2.1∧x.2.2.2.1<(x.1.length:Int)then
 bif (decide ((rd (Ty.zero tVersion) x.2.2.2.2.1 x.2.2.2.2.2.2).2.2.2>(rd (Ty.zero tVersion) x.1 x.2.2.2.1).2.2.2))then
 k (.inl (x.1,x.2.1,x.2.2.1,x.2.2.2.2.2.2,x.2.2.2.2.1,x.2.2.2.2.2.1,(IntKind.wrap .i64 (x.2.2.2.2.2.2+1))))
 else
 k (.inl t0)
 else none
 else
 k (.inl t0)
 else
 k (.inl t0)
 else none
 else
 k (.inr (x.1,x.2.1,x.2.2.1,x.2.2.2.1,x.2.2.2.2.1,x.2.2.2.2.2.1,x.2.2.2.2.2.2))
instance n08n_bp0 (x:q10T):ParC (vh5 x):=by unfold vh5;(try dsimp only);infer_instance
def v1d (a0:(List vaa))(a1:ByteArray)(a2:Int)(k:Int→Option Res):Option Res:=
 vac vh5 Fuel (a0,a1,a2,(-1:Int),a0,(a0.length:Int),0) (fun z1=>
 k z1.2.2.2.1)
def vre:=shut v1d
theorem v38:vre=v1d:=vai _
instance n08n_p (a0:(List vaa))(a1:ByteArray)(a2:Int):ParC (vre a0 a1 a2):=by rw [v38];unfold v1d;(try dsimp only);infer_instance
def vje (x:q22T)(k:q22T⊕q22T→Option Res):Option Res:=
 bif (decide (x.2.2.2.1<x.2.2.1))then
 if 0≤x.2.2.2.1∧x.2.2.2.1<(x.2.2.2.2.length:Int)then
 bif (vbh ((x.2.2.2.2.getD x.2.2.2.1.toNat (Ty.zero tVersion)).1) x.1)then
 k (.inl (x.1,(IntKind.wrap .i64 (x.2.1+1)),x.2.2.1,(IntKind.wrap .i64 (x.2.2.2.1+1)),x.2.2.2.2))
 else
 k (.inl (x.1,x.2.1,x.2.2.1,(IntKind.wrap .i64 (x.2.2.2.1+1)),x.2.2.2.2))
 else none
 else
 k (.inr (x.1,x.2.1,x.2.2.1,x.2.2.2.1,x.2.2.2.2))
instance n04n_bp0 (x:q22T):ParC (vje x):=by unfold vje;(try dsimp only);infer_instance
def v19 (a0:ByteArray)(a1:(List vaa))(k:(Int×(List vaa))→Option Res):Option Res:=
 vac vje Fuel (a0,0,(a1.length:Int),0,a1) (fun z1=>
 k (z1.2.1,z1.2.2.2.2))
def vtc:=shut v19
theorem v5c:vtc=v19:=vai _
instance n04n_p (a0:ByteArray)(a1:(List vaa)):ParC (vtc a0 a1):=by rw [v5c];unfold v19;(try dsimp only);infer_instance
def vbt (x:q13T)(k:q13T→Option Res):Option Res:=
 let xh:=x.2.2.2.2.2.2.2.2
 bif x.2.2.2.2.2.1 then
 if xh.2.2.length+[(x.2.2.2.2.2.2.1,(x.2.2.2.2.2.2.2.1,(xh.1,xh.2.1)))].length≤VE.maxLen then
 k (x.1,x.2.1,x.2.2.1,x.2.2.2.1,x.2.2.2.2.1,x.2.2.2.2.2.1,x.2.2.2.2.2.2.1,x.2.2.2.2.2.2.2.1,xh.1,xh.2.1,(xh.2.2++[(x.2.2.2.2.2.2.1,(x.2.2.2.2.2.2.2.1,(xh.1,xh.2.1)))]))
 else none
 else
 k (x.1,x.2.1,x.2.2.1,x.2.2.2.1,x.2.2.2.2.1,x.2.2.2.2.2.1,x.2.2.2.2.2.2.1,x.2.2.2.2.2.2.2.1,xh.1,xh.2.1,xh.2.2)
instance n03n_jp15000006 (x:q13T):ParC (vbt x):=by unfold vbt;(try dsimp only);infer_instance
def vip (x:q12T)(k:q12T⊕q12T→Option Res):Option Res:=
 let t0:=(rd (Ty.zero tVersion) x.2.2.1 x.2.2.2.2.1)
 bif (decide (x.2.2.2.2.1<x.2.2.2.1))then
 if 0≤x.2.2.2.2.1∧x.2.2.2.2.1<(x.2.2.1.length:Int)then
 bif (decide (t0.2.2.2>x.2.1))then
 vbt (x.1,x.2.1,x.2.2.1,x.2.2.2.1,x.2.2.2.2.1,true,t0.1,t0.2.1,t0.2.2.1,t0.2.2.2,x.2.2.2.2.2) (fun z3=>
 k (.inl (z3.1,z3.2.1,z3.2.2.1,z3.2.2.2.1,(IntKind.wrap .i64 (z3.2.2.2.2.1+1)),z3.2.2.2.2.2.2.2.2.2.2)))
 else
 vre x.1 (t0.1) x.2.1 (fun y4=>
 vbt (x.1,x.2.1,x.2.2.1,x.2.2.2.1,x.2.2.2.2.1,(y4==x.2.2.2.2.1),t0.1,t0.2.1,t0.2.2.1,t0.2.2.2,x.2.2.2.2.2) (fun z5=>
 k (.inl (z5.1,z5.2.1,z5.2.2.1,z5.2.2.2.1,(IntKind.wrap .i64 (z5.2.2.2.2.1+1)),z5.2.2.2.2.2.2.2.2.2.2))))
 else none
 else
 k (.inr (x.1,x.2.1,x.2.2.1,x.2.2.2.1,x.2.2.2.2.1,x.2.2.2.2.2))
instance n03n_bp0 (x:q12T):ParC (vip x):=by unfold vip;(try dsimp only);infer_instance
def vii (x:q29T)(k:q29T⊕q29T→Option Res):Option Res:=
 let t0:=(x.2.2.2.2.getD x.2.2.1.toNat (Ty.zero tVersion))
 bif (decide (x.2.2.1<x.2.1))then
 if 0≤x.2.2.1∧x.2.2.1<(x.2.2.2.2.length:Int)then
 bif (decide (t0.2.2.2>x.1))then
 if x.2.2.2.1.length+[t0].length≤VE.maxLen then
 k (.inl (x.1,x.2.1,(IntKind.wrap .i64 (x.2.2.1+1)),(x.2.2.2.1++[t0]),x.2.2.2.2))
 else none
 else
 bif (!t0.2.2.1)then
 if x.2.2.2.1.length+[t0].length≤VE.maxLen then
 k (.inl (x.1,x.2.1,(IntKind.wrap .i64 (x.2.2.1+1)),(x.2.2.2.1++[t0]),x.2.2.2.2))
 else none
 else
 vtc (t0.1) x.2.2.2.2 (fun y6=>
 bif (decide (y6.1>1))then
 if x.2.2.2.1.length+[t0].length≤VE.maxLen then
 k (.inl (x.1,x.2.1,(IntKind.wrap .i64 (x.2.2.1+1)),(x.2.2.2.1++[t0]),y6.2))
 else none
 else
 k (.inl (x.1,x.2.1,(IntKind.wrap .i64 (x.2.2.1+1)),x.2.2.2.1,y6.2)))
 else none
 else
 k (.inr (x.1,x.2.1,x.2.2.1,x.2.2.2.1,x.2.2.2.2))
instance n03n_bp2 (x:q29T):ParC (vii x):=by unfold vii;(try dsimp only);infer_instance
def v08 (a0:(List vaa))(a1:Int)(k:(List vaa)→Option Res):Option Res:=
 vac vip Fuel (a0,a1,a0,(a0.length:Int),0,([]:List vaa)) (fun z1=>
 vac vii Fuel (z1.2.1,(z1.2.2.2.2.2.length:Int),0,([]:List vaa),z1.2.2.2.2.2) (fun z2=>
 k z2.2.2.2.1))
def vo6:=shut v08
theorem v53:vo6=v08:=vai _
instance n03n_p (a0:(List vaa))(a1:Int):ParC (vo6 a0 a1):=by rw [v53];unfold v08;(try dsimp only);infer_instance
def v0u (a0:vcn)(a1:(List dTxn))(k:q26T→Option Res):Option Res:=
 vwq a0 (fun y1=>
 vr6 a0 a1 (fun y2=>
 vsy y1.2.2.2.1 y2 (Sum.elim (fun y3=>
 vo6 a0.1 y3.2 (fun y4=>
 k (y1.1,y1.2.1,y4,y3.1,y1.2.2.2.2))) (fun y5=>
 vo6 a0.1 y5.1 (fun y6=>
 k (y1.1,y1.2.1,y6,y5.2,y1.2.2.2.2))))))
def vnx:=shut v0u
theorem v5e:vnx=v0u:=vai _
instance n01n_p (a0:vcn)(a1:(List dTxn)):ParC (vnx a0 a1):=by rw [v5e];unfold v0u;(try dsimp only);infer_instance
def v2l (a0:vaa)(a1:vaa)(k:Bool→Option Res):Option Res:=
 bif (!(vbh a0.1 a1.1))then
 k false
 else
 bif (!(vbh a0.2.1 a1.2.1))then
 k false
 else
 bif (!(a0.2.2.1==a1.2.2.1))then
 k false
 else
 bif (a0.2.2.2 != a1.2.2.2)then
 k false
 else
 k true
def vub:=shut v2l
theorem v5t:vub=v2l:=vai _
instance n15n_p (a0:vaa)(a1:vaa):ParC (vub a0 a1):=by rw [v5t];unfold v2l;(try dsimp only);infer_instance
def vjp (x:q9T)(k:q9T⊕(q9T⊕q9T)→Option Res):Option Res:=
 bif (decide (x.2.2.2<(x.1.length:Int)))then
 if 0≤x.2.2.2∧x.2.2.2<(x.1.length:Int)then
 if 0≤x.2.2.2∧x.2.2.2<(x.2.1.length:Int)then
 vub (rd (Ty.zero tVersion) x.1 x.2.2.2) (rd (Ty.zero tVersion) x.2.1 x.2.2.2) (fun y3=>
 bif (!y3)then
 k (.inr (.inl (x.1,x.2.1,false,x.2.2.2)))
 else
 k (.inl (x.1,x.2.1,x.2.2.1,(IntKind.wrap .i64 (x.2.2.2+1)))))
 else none
 else none
 else
 k (.inr (.inr (x.1,x.2.1,x.2.2.1,x.2.2.2)))
instance n16n_bp0 (x:q9T):ParC (vjp x):=by unfold vjp;(try dsimp only);infer_instance
def v06 (a0:(List vaa))(a1:(List vaa))(k:Bool→Option Res):Option Res:=
 bif ((a0.length:Int) != (a1.length:Int))then
 k false
 else
 vac vjp Fuel (a0,a1,false,0) (Sum.elim (fun z1=>
 k z1.2.2.1) (fun _=>
 k true))
def vt5:=shut v06
theorem v62:vt5=v06:=vai _
instance n16n_p (a0:(List vaa))(a1:(List vaa)):ParC (vt5 a0 a1):=by rw [v62];unfold v06;(try dsimp only);infer_instance
def v1t (a0:vaj)(a1:vaj)(k:Bool→Option Res):Option Res:=
 bif (!(vbh a0.1 a1.1))then
 k false
 else
 bif (!(vbh a0.2 a1.2))then
 k false
 else
 k true
def vsq:=shut v1t
theorem v58:vsq=v1t:=vai _
instance n11n_p (a0:vaj)(a1:vaj):ParC (vsq a0 a1):=by rw [v58];unfold v1t;(try dsimp only);infer_instance
def vjj (x:q0T)(k:q0T⊕(q0T⊕q0T)→Option Res):Option Res:=
 bif (decide (x.2.2.2<(x.1.length:Int)))then
 if 0≤x.2.2.2∧x.2.2.2<(x.1.length:Int)then
 if 0≤x.2.2.2∧x.2.2.2<(x.2.1.length:Int)then
 vsq (rd (Ty.zero tRange) x.1 x.2.2.2) (rd (Ty.zero tRange) x.2.1 x.2.2.2) (fun y3=>
 bif (!y3)then
 k (.inr (.inl (x.1,x.2.1,false,x.2.2.2)))
 else
 k (.inl (x.1,x.2.1,x.2.2.1,(IntKind.wrap .i64 (x.2.2.2+1)))))
 else none
 else none
 else
 k (.inr (.inr (x.1,x.2.1,x.2.2.1,x.2.2.2)))
instance n12n_bp0 (x:q0T):ParC (vjj x):=by unfold vjj;(try dsimp only);infer_instance
def v1o (a0:(List vaj))(a1:(List vaj))(k:Bool→Option Res):Option Res:=
 bif ((a0.length:Int) != (a1.length:Int))then
 k false
 else
 vac vjj Fuel (a0,a1,false,0) (Sum.elim (fun z1=>
 k z1.2.2.1) (fun _=>
 k true))
def vsu:=shut v1o
theorem v7p:vsu=v1o:=vai _
instance n12n_p (a0:(List vaj))(a1:(List vaj)):ParC (vsu a0 a1):=by rw [v7p];unfold v1o;(try dsimp only);infer_instance
def v05 (a0:vak)(a1:vak)(k:Bool→Option Res):Option Res:=
 bif (!(vbh a0.1 a1.1))then
 k false
 else
 bif (!(vbh a0.2.1 a1.2.1))then
 k false
 else
 bif (!(a0.2.2==a1.2.2))then
 k false
 else
 k true
def vtb:=shut v05
theorem v5o:vtb=v05:=vai _
instance n17n_p (a0:vak)(a1:vak):ParC (vtb a0 a1):=by rw [v5o];unfold v05;(try dsimp only);infer_instance
def vib (x:q18T)(k:q18T⊕(q18T⊕q18T)→Option Res):Option Res:=
 bif (decide (x.2.2.2<(x.1.length:Int)))then
 if 0≤x.2.2.2∧x.2.2.2<(x.1.length:Int)then
 if 0≤x.2.2.2∧x.2.2.2<(x.2.1.length:Int)then
 vtb (rd (Ty.zero tWrite) x.1 x.2.2.2) (rd (Ty.zero tWrite) x.2.1 x.2.2.2) (fun y3=>
 bif (!y3)then
 k (.inr (.inl (x.1,x.2.1,false,x.2.2.2)))
 else
 k (.inl (x.1,x.2.1,x.2.2.1,(IntKind.wrap .i64 (x.2.2.2+1)))))
 else none
 else none
 else
 k (.inr (.inr (x.1,x.2.1,x.2.2.1,x.2.2.2)))
instance n18n_bp0 (x:q18T):ParC (vib x):=by unfold vib;(try dsimp only);infer_instance
def v2a (a0:(List vak))(a1:(List vak))(k:Bool→Option Res):Option Res:=
 bif ((a0.length:Int) != (a1.length:Int))then
 k false
 else
 vac vib Fuel (a0,a1,false,0) (Sum.elim (fun z1=>
 k z1.2.2.1) (fun _=>
 k true))
def vt0:=shut v2a
theorem v4r:vt0=v2a:=vai _
instance n18n_p (a0:(List vak))(a1:(List vak)):ParC (vt0 a0 a1):=by rw [v4r];unfold v2a;(try dsimp only);infer_instance
def v2n (a0:dTxn)(a1:dTxn)(k:Bool→Option Res):Option Res:=
 bif (a0.1 != a1.1)then
 k false
 else
 bif (a0.2.1 != a1.2.1)then
 k false
 else
 bif (a0.2.2.1 != a1.2.2.1)then
 k false
 else
 bif (a0.2.2.2.1 != a1.2.2.2.1)then
 k false
 else
 vsu a0.2.2.2.2.1 a1.2.2.2.2.1 (fun y1=>
 bif (!y1)then
 k false
 else
 vt0 a0.2.2.2.2.2.1 a1.2.2.2.2.2.1 (fun y2=>
 bif (!y2)then
 k false
 else
 bif (!(a0.2.2.2.2.2.2.1==a1.2.2.2.2.2.2.1))then
 k false
 else
 bif (!(vbh a0.2.2.2.2.2.2.2 a1.2.2.2.2.2.2.2))then
 k false
 else
 k true))
def vpt:=shut v2n
theorem v6o:vpt=v2n:=vai _
instance n13n_p (a0:dTxn)(a1:dTxn):ParC (vpt a0 a1):=by rw [v6o];unfold v2n;(try dsimp only);infer_instance
def vjg (x:q3T)(k:q3T⊕(q3T⊕q3T)→Option Res):Option Res:=
 bif (decide (x.2.2.2<(x.1.length:Int)))then
 if 0≤x.2.2.2∧x.2.2.2<(x.1.length:Int)then
 if 0≤x.2.2.2∧x.2.2.2<(x.2.1.length:Int)then
 vpt (rd (Ty.zero tTxn) x.1 x.2.2.2) (rd (Ty.zero tTxn) x.2.1 x.2.2.2) (fun y3=>
 bif (!y3)then
 k (.inr (.inl (x.1,x.2.1,false,x.2.2.2)))
 else
 k (.inl (x.1,x.2.1,x.2.2.1,(IntKind.wrap .i64 (x.2.2.2+1)))))
 else none
 else none
 else
 k (.inr (.inr (x.1,x.2.1,x.2.2.1,x.2.2.2)))
instance n14n_bp0 (x:q3T):ParC (vjg x):=by unfold vjg;(try dsimp only);infer_instance
def v0m (a0:(List dTxn))(a1:(List dTxn))(k:Bool→Option Res):Option Res:=
 bif ((a0.length:Int) != (a1.length:Int))then
 k false
 else
 vac vjg Fuel (a0,a1,false,0) (Sum.elim (fun z1=>
 k z1.2.2.1) (fun _=>
 k true))
def vkh:=shut v0m
theorem v59:vkh=v0m:=vai _
instance n14n_p (a0:(List dTxn))(a1:(List dTxn)):ParC (vkh a0 a1):=by rw [v59];unfold v0m;(try dsimp only);infer_instance
def vwy (a0:vcn)(a1:vcn)(k:Bool→Option Res):Option Res:=
 vt5 a0.1 a1.1 (fun y1=>
 bif (!y1)then
 k false
 else
 vkh a0.2.1 a1.2.1 (fun y2=>
 bif (!y2)then
 k false
 else
 vkh a0.2.2.1 a1.2.2.1 (fun y3=>
 bif (!y3)then
 k false
 else
 bif (a0.2.2.2.1 != a1.2.2.2.1)then
 k false
 else
 bif (a0.2.2.2.2 != a1.2.2.2.2)then
 k false
 else
 k true)))
def ve2:=shut vwy
theorem v10:ve2=vwy:=vai _
instance n10n_p (a0:vcn)(a1:vcn):ParC (ve2 a0 a1):=by rw [v10];unfold vwy;(try dsimp only);infer_instance
def vk4 (x:(Int×ByteArray))(k:(Int×ByteArray)⊕(Int×ByteArray)→Option Res):Option Res:=
 bif (decide (x.1>0))then
 if(vks [(IntKind.wrap .u8 (IntKind.wrap .i64 ((48:Int)+(x.1.tmod (10:Int)))))]).size+x.2.size≤1099511627776 then
 k (.inl ((IntKind.wrap .i64 (x.1.tdiv (10:Int))),((vks [(IntKind.wrap .u8 (IntKind.wrap .i64 ((48:Int)+(x.1.tmod (10:Int)))))])++x.2)))
 else none
 else
 k (.inr (x.1,x.2))
instance n26n_bp0 (x:(Int×ByteArray)):ParC (vk4 x):=by unfold vk4;(try dsimp only);infer_instance
def v0p (a0:Int)(k:ByteArray→Option Res):Option Res:=
 bif (decide (a0≤0))then
 k (⟨#[109,48]⟩:ByteArray)
 else
 vac vk4 Fuel (a0,(⟨#[]⟩:ByteArray)) (fun z1=>
 if(⟨#[109]⟩:ByteArray).size+z1.2.size≤1099511627776 then
 k ((⟨#[109]⟩:ByteArray)++z1.2)
 else none)
def vbv:=shut v0p
theorem v6j:vbv=v0p:=vai _
instance n26n_p (a0:Int):ParC (vbv a0):=by rw [v6j];unfold v0p;(try dsimp only);infer_instance
def vhz (x:(Int×Int×(List vaa)))(k:(Int×Int×(List vaa))⊕(Int×Int×(List vaa))→Option Res):Option Res:=
 let t0:=(x.2.2.getD x.2.1.toNat (Ty.zero tVersion))
 let t1:=(IntKind.wrap .i64 ((IntKind.wrap .i64 (x.1+(1:Int)))+(1:Int)))
 let t2:=((t1.tmod (3:Int))==(0:Int))
 bif (decide (x.2.1<(x.2.2.length:Int)))then
 vbv x.1 (fun y2=>
 if 0≤x.2.1∧x.2.1<(x.2.2.length:Int)then
 vbv (IntKind.wrap .i64 (x.1+1)) (fun y3=>
 if 0≤x.2.1∧x.2.1<((x.2.2.set x.2.1.toNat (y2,t0.2)).length:Int)then
 if 0≤x.2.1∧x.2.1<(((x.2.2.set x.2.1.toNat (y2,t0.2)).set x.2.1.toNat (((x.2.2.set x.2.1.toNat (y2,t0.2)).getD x.2.1.toNat (Ty.zero tVersion)).1,(y3,((x.2.2.set x.2.1.toNat (y2,t0.2)).getD x.2.1.toNat (Ty.zero tVersion)).2.2))).length:Int)then
 if 0≤x.2.1∧x.2.1<((((x.2.2.set x.2.1.toNat (y2,t0.2)).set x.2.1.toNat (((x.2.2.set x.2.1.toNat (y2,t0.2)).getD x.2.1.toNat (Ty.zero tVersion)).1,(y3,((x.2.2.set x.2.1.toNat (y2,t0.2)).getD x.2.1.toNat (Ty.zero tVersion)).2.2))).set x.2.1.toNat ((((x.2.2.set x.2.1.toNat (y2,t0.2)).set x.2.1.toNat (((x.2.2.set x.2.1.toNat (y2,t0.2)).getD x.2.1.toNat (Ty.zero tVersion)).1,(y3,((x.2.2.set x.2.1.toNat (y2,t0.2)).getD x.2.1.toNat (Ty.zero tVersion)).2.2))).getD x.2.1.toNat (Ty.zero tVersion)).1,((((x.2.2.set x.2.1.toNat (y2,t0.2)).set x.2.1.toNat (((x.2.2.set x.2.1.toNat (y2,t0.2)).getD x.2.1.toNat (Ty.zero tVersion)).1,(y3,((x.2.2.set x.2.1.toNat (y2,t0.2)).getD x.2.1.toNat (Ty.zero tVersion)).2.2))).getD x.2.1.toNat (Ty.zero tVersion)).2.1,(t2,(((x.2.2.set x.2.1.toNat (y2,t0.2)).set x.2.1.toNat (((x.2.2.set x.2.1.toNat (y2,t0.2)).getD x.2.1.toNat (Ty.zero tVersion)).1,(y3,((x.2.2.set x.2.1.toNat (y2,t0.2)).getD x.2.1.toNat (Ty.zero tVersion)).2.2))).getD x.2.1.toNat (Ty.zero tVersion)).2.2.2)))).length:Int)then
 k (.inl ((IntKind.wrap .i64 ((IntKind.wrap .i64 (t1+1))+1)),(IntKind.wrap .i64 (x.2.1+1)),((((x.2.2.set x.2.1.toNat (y2,t0.2)).set x.2.1.toNat (((x.2.2.set x.2.1.toNat (y2,t0.2)).getD x.2.1.toNat (Ty.zero tVersion)).1,(y3,((x.2.2.set x.2.1.toNat (y2,t0.2)).getD x.2.1.toNat (Ty.zero tVersion)).2.2))).set x.2.1.toNat ((((x.2.2.set x.2.1.toNat (y2,t0.2)).set x.2.1.toNat (((x.2.2.set x.2.1.toNat (y2,t0.2)).getD x.2.1.toNat (Ty.zero tVersion)).1,(y3,((x.2.2.set x.2.1.toNat (y2,t0.2)).getD x.2.1.toNat (Ty.zero tVersion)).2.2))).getD x.2.1.toNat (Ty.zero tVersion)).1,((((x.2.2.set x.2.1.toNat (y2,t0.2)).set x.2.1.toNat (((x.2.2.set x.2.1.toNat (y2,t0.2)).getD x.2.1.toNat (Ty.zero tVersion)).1,(y3,((x.2.2.set x.2.1.toNat (y2,t0.2)).getD x.2.1.toNat (Ty.zero tVersion)).2.2))).getD x.2.1.toNat (Ty.zero tVersion)).2.1,(t2,(((x.2.2.set x.2.1.toNat (y2,t0.2)).set x.2.1.toNat (((x.2.2.set x.2.1.toNat (y2,t0.2)).getD x.2.1.toNat (Ty.zero tVersion)).1,(y3,((x.2.2.set x.2.1.toNat (y2,t0.2)).getD x.2.1.toNat (Ty.zero tVersion)).2.2))).getD x.2.1.toNat (Ty.zero tVersion)).2.2.2)))).set x.2.1.toNat (((((x.2.2.set x.2.1.toNat (y2,t0.2)).set x.2.1.toNat (((x.2.2.set x.2.1.toNat (y2,t0.2)).getD x.2.1.toNat (Ty.zero tVersion)).1,(y3,((x.2.2.set x.2.1.toNat (y2,t0.2)).getD x.2.1.toNat (Ty.zero tVersion)).2.2))).set x.2.1.toNat ((((x.2.2.set x.2.1.toNat (y2,t0.2)).set x.2.1.toNat (((x.2.2.set x.2.1.toNat (y2,t0.2)).getD x.2.1.toNat (Ty.zero tVersion)).1,(y3,((x.2.2.set x.2.1.toNat (y2,t0.2)).getD x.2.1.toNat (Ty.zero tVersion)).2.2))).getD x.2.1.toNat (Ty.zero tVersion)).1,((((x.2.2.set x.2.1.toNat (y2,t0.2)).set x.2.1.toNat (((x.2.2.set x.2.1.toNat (y2,t0.2)).getD x.2.1.toNat (Ty.zero tVersion)).1,(y3,((x.2.2.set x.2.1.toNat (y2,t0.2)).getD x.2.1.toNat (Ty.zero tVersion)).2.2))).getD x.2.1.toNat (Ty.zero tVersion)).2.1,(t2,(((x.2.2.set x.2.1.toNat (y2,t0.2)).set x.2.1.toNat (((x.2.2.set x.2.1.toNat (y2,t0.2)).getD x.2.1.toNat (Ty.zero tVersion)).1,(y3,((x.2.2.set x.2.1.toNat (y2,t0.2)).getD x.2.1.toNat (Ty.zero tVersion)).2.2))).getD x.2.1.toNat (Ty.zero tVersion)).2.2.2)))).getD x.2.1.toNat (Ty.zero tVersion)).1,(((((x.2.2.set x.2.1.toNat (y2,t0.2)).set x.2.1.toNat (((x.2.2.set x.2.1.toNat (y2,t0.2)).getD x.2.1.toNat (Ty.zero tVersion)).1,(y3,((x.2.2.set x.2.1.toNat (y2,t0.2)).getD x.2.1.toNat (Ty.zero tVersion)).2.2))).set x.2.1.toNat ((((x.2.2.set x.2.1.toNat (y2,t0.2)).set x.2.1.toNat (((x.2.2.set x.2.1.toNat (y2,t0.2)).getD x.2.1.toNat (Ty.zero tVersion)).1,(y3,((x.2.2.set x.2.1.toNat (y2,t0.2)).getD x.2.1.toNat (Ty.zero tVersion)).2.2))).getD x.2.1.toNat (Ty.zero tVersion)).1,((((x.2.2.set x.2.1.toNat (y2,t0.2)).set x.2.1.toNat (((x.2.2.set x.2.1.toNat (y2,t0.2)).getD x.2.1.toNat (Ty.zero tVersion)).1,(y3,((x.2.2.set x.2.1.toNat (y2,t0.2)).getD x.2.1.toNat (Ty.zero tVersion)).2.2))).getD x.2.1.toNat (Ty.zero tVersion)).2.1,(t2,(((x.2.2.set x.2.1.toNat (y2,t0.2)).set x.2.1.toNat (((x.2.2.set x.2.1.toNat (y2,t0.2)).getD x.2.1.toNat (Ty.zero tVersion)).1,(y3,((x.2.2.set x.2.1.toNat (y2,t0.2)).getD x.2.1.toNat (Ty.zero tVersion)).2.2))).getD x.2.1.toNat (Ty.zero tVersion)).2.2.2)))).getD x.2.1.toNat (Ty.zero tVersion)).2.1,(((((x.2.2.set x.2.1.toNat (y2,t0.2)).set x.2.1.toNat (((x.2.2.set x.2.1.toNat (y2,t0.2)).getD x.2.1.toNat (Ty.zero tVersion)).1,(y3,((x.2.2.set x.2.1.toNat (y2,t0.2)).getD x.2.1.toNat (Ty.zero tVersion)).2.2))).set x.2.1.toNat ((((x.2.2.set x.2.1.toNat (y2,t0.2)).set x.2.1.toNat (((x.2.2.set x.2.1.toNat (y2,t0.2)).getD x.2.1.toNat (Ty.zero tVersion)).1,(y3,((x.2.2.set x.2.1.toNat (y2,t0.2)).getD x.2.1.toNat (Ty.zero tVersion)).2.2))).getD x.2.1.toNat (Ty.zero tVersion)).1,((((x.2.2.set x.2.1.toNat (y2,t0.2)).set x.2.1.toNat (((x.2.2.set x.2.1.toNat (y2,t0.2)).getD x.2.1.toNat (Ty.zero tVersion)).1,(y3,((x.2.2.set x.2.1.toNat (y2,t0.2)).getD x.2.1.toNat (Ty.zero tVersion)).2.2))).getD x.2.1.toNat (Ty.zero tVersion)).2.1,(t2,(((x.2.2.set x.2.1.toNat (y2,t0.2)).set x.2.1.toNat (((x.2.2.set x.2.1.toNat (y2,t0.2)).getD x.2.1.toNat (Ty.zero tVersion)).1,(y3,((x.2.2.set x.2.1.toNat (y2,t0.2)).getD x.2.1.toNat (Ty.zero tVersion)).2.2))).getD x.2.1.toNat (Ty.zero tVersion)).2.2.2)))).getD x.2.1.toNat (Ty.zero tVersion)).2.2.1,(IntKind.wrap .i64 (t1+1))))))))
 else none
 else none
 else none)
 else none)
 else
 k (.inr (x.1,x.2.1,x.2.2))
instance n28n_bp0 (x:(Int×Int×(List vaa))):ParC (vhz x):=by unfold vhz;(try dsimp only);infer_instance
def v1s (a0:Int)(a1:(List vaa))(k:(Int×(List vaa))→Option Res):Option Res:=
 vac vhz Fuel (a0,0,a1) (fun z1=>
 k (z1.1,z1.2.2))
def vx1:=shut v1s
theorem v60:vx1=v1s:=vai _
instance n28n_p (a0:Int)(a1:(List vaa)):ParC (vx1 a0 a1):=by rw [v60];unfold v1s;(try dsimp only);infer_instance
def vle (x:(Int×Int×(List vaj)))(k:(Int×Int×(List vaj))⊕(Int×Int×(List vaj))→Option Res):Option Res:=
 bif (decide (x.2.1<(x.2.2.length:Int)))then
 vbv x.1 (fun y2=>
 if 0≤x.2.1∧x.2.1<(x.2.2.length:Int)then
 vbv (IntKind.wrap .i64 (x.1+1)) (fun y3=>
 if 0≤x.2.1∧x.2.1<((x.2.2.set x.2.1.toNat (y2,(x.2.2.getD x.2.1.toNat (Ty.zero tRange)).2)).length:Int)then
 k (.inl ((IntKind.wrap .i64 ((IntKind.wrap .i64 (x.1+1))+1)),(IntKind.wrap .i64 (x.2.1+1)),((x.2.2.set x.2.1.toNat (y2,(x.2.2.getD x.2.1.toNat (Ty.zero tRange)).2)).set x.2.1.toNat (((x.2.2.set x.2.1.toNat (y2,(x.2.2.getD x.2.1.toNat (Ty.zero tRange)).2)).getD x.2.1.toNat (Ty.zero tRange)).1,y3))))
 else none)
 else none)
 else
 k (.inr (x.1,x.2.1,x.2.2))
instance n25n_bp0 (x:(Int×Int×(List vaj))):ParC (vle x):=by unfold vle;(try dsimp only);infer_instance
def v04 (a0:Int)(a1:(List vaj))(k:(Int×(List vaj))→Option Res):Option Res:=
 vac vle Fuel (a0,0,a1) (fun z1=>
 k (z1.1,z1.2.2))
def vxp:=shut v04
theorem v7m:vxp=v04:=vai _
instance n25n_p (a0:Int)(a1:(List vaj)):ParC (vxp a0 a1):=by rw [v7m];unfold v04;(try dsimp only);infer_instance
def vk8 (x:(Int×Int×(List vak)))(k:(Int×Int×(List vak))⊕(Int×Int×(List vak))→Option Res):Option Res:=
 let t0:=(x.2.2.getD x.2.1.toNat (Ty.zero tWrite))
 bif (decide (x.2.1<(x.2.2.length:Int)))then
 vbv x.1 (fun y2=>
 if 0≤x.2.1∧x.2.1<(x.2.2.length:Int)then
 vbv (IntKind.wrap .i64 (x.1+1)) (fun y3=>
 if 0≤x.2.1∧x.2.1<((x.2.2.set x.2.1.toNat (y2,t0.2)).length:Int)then
 if 0≤x.2.1∧x.2.1<(((x.2.2.set x.2.1.toNat (y2,t0.2)).set x.2.1.toNat (((x.2.2.set x.2.1.toNat (y2,t0.2)).getD x.2.1.toNat (Ty.zero tWrite)).1,(y3,((x.2.2.set x.2.1.toNat (y2,t0.2)).getD x.2.1.toNat (Ty.zero tWrite)).2.2))).length:Int)then
 k (.inl ((IntKind.wrap .i64 ((IntKind.wrap .i64 ((IntKind.wrap .i64 (x.1+1))+1))+1)),(IntKind.wrap .i64 (x.2.1+1)),(((x.2.2.set x.2.1.toNat (y2,t0.2)).set x.2.1.toNat (((x.2.2.set x.2.1.toNat (y2,t0.2)).getD x.2.1.toNat (Ty.zero tWrite)).1,(y3,((x.2.2.set x.2.1.toNat (y2,t0.2)).getD x.2.1.toNat (Ty.zero tWrite)).2.2))).set x.2.1.toNat ((((x.2.2.set x.2.1.toNat (y2,t0.2)).set x.2.1.toNat (((x.2.2.set x.2.1.toNat (y2,t0.2)).getD x.2.1.toNat (Ty.zero tWrite)).1,(y3,((x.2.2.set x.2.1.toNat (y2,t0.2)).getD x.2.1.toNat (Ty.zero tWrite)).2.2))).getD x.2.1.toNat (Ty.zero tWrite)).1,((((x.2.2.set x.2.1.toNat (y2,t0.2)).set x.2.1.toNat (((x.2.2.set x.2.1.toNat (y2,t0.2)).getD x.2.1.toNat (Ty.zero tWrite)).1,(y3,((x.2.2.set x.2.1.toNat (y2,t0.2)).getD x.2.1.toNat (Ty.zero tWrite)).2.2))).getD x.2.1.toNat (Ty.zero tWrite)).2.1,(((IntKind.wrap .i64 ((IntKind.wrap .i64 (x.1+1))+1)).tmod (3:Int))==(0:Int)))))))
 else none
 else none)
 else none)
 else
 k (.inr (x.1,x.2.1,x.2.2))
instance n29n_bp0 (x:(Int×Int×(List vak))):ParC (vk8 x):=by unfold vk8;(try dsimp only);infer_instance
def v2g (a0:Int)(a1:(List vak))(k:(Int×(List vak))→Option Res):Option Res:=
 vac vk8 Fuel (a0,0,a1) (fun z1=>
 k (z1.1,z1.2.2))
def vv3:=shut v2g
theorem v7e:vv3=v2g:=vai _
instance n29n_p (a0:Int)(a1:(List vak)):ParC (vv3 a0 a1):=by rw [v7e];unfold v2g;(try dsimp only);infer_instance
def vc8 (x:(Int×Int×(List dTxn)))(k:(Int×Int×(List dTxn))→Option Res):Option Res:=
 k (x.1,(IntKind.wrap .i64 (x.2.1+1)),x.2.2)
instance n27n_jp5000003 (x:(Int×Int×(List dTxn))):ParC (vc8 x):=by unfold vc8;(try dsimp only);infer_instance
def vc9 (x:(Int×Int×(List dTxn)))(k:(Int×Int×(List dTxn))→Option Res):Option Res:=
 k ((IntKind.wrap .i64 (x.1+1)),x.2.1,x.2.2)
instance n27n_jp5000017 (x:(Int×Int×(List dTxn))):ParC (vc9 x):=by unfold vc9;(try dsimp only);infer_instance
def vdg (x:(Int×Int×(List dTxn)))(k:(Int×Int×(List dTxn))→Option Res):Option Res:=
 vbv (IntKind.wrap .i64 (x.1+1)) (fun y10=>
 if 0≤x.2.1∧x.2.1<(x.2.2.length:Int)then
 vc9 ((IntKind.wrap .i64 (x.1+1)),x.2.1,(x.2.2.set x.2.1.toNat ((x.2.2.getD x.2.1.toNat (Ty.zero tTxn)).1,((x.2.2.getD x.2.1.toNat (Ty.zero tTxn)).2.1,((x.2.2.getD x.2.1.toNat (Ty.zero tTxn)).2.2.1,((x.2.2.getD x.2.1.toNat (Ty.zero tTxn)).2.2.2.1,((x.2.2.getD x.2.1.toNat (Ty.zero tTxn)).2.2.2.2.1,((x.2.2.getD x.2.1.toNat (Ty.zero tTxn)).2.2.2.2.2.1,((x.2.2.getD x.2.1.toNat (Ty.zero tTxn)).2.2.2.2.2.2.1,y10))))))))) (fun z11=>
 k (z11.1,z11.2.1,z11.2.2))
 else none)
instance n27n_jp5000015 (x:(Int×Int×(List dTxn))):ParC (vdg x):=by unfold vdg;(try dsimp only);infer_instance
def vdf (x:(Int×Int×(List dTxn)))(k:(Int×Int×(List dTxn))→Option Res):Option Res:=
 let t0:=(x.2.2.getD x.2.1.toNat (Ty.zero tTxn))
 if 0≤x.2.1∧x.2.1<(x.2.2.length:Int)then
 vxp (IntKind.wrap .i64 (x.1+1)) (t0.2.2.2.2.1) (fun y7=>
 if 0≤x.2.1∧x.2.1<((x.2.2.set x.2.1.toNat (t0.1,(t0.2.1,(t0.2.2.1,(t0.2.2.2.1,(y7.2,t0.2.2.2.2.2)))))).length:Int)then
 vv3 y7.1 (((x.2.2.set x.2.1.toNat (t0.1,(t0.2.1,(t0.2.2.1,(t0.2.2.2.1,(y7.2,t0.2.2.2.2.2)))))).getD x.2.1.toNat (Ty.zero tTxn)).2.2.2.2.2.1) (fun y8=>
 if 0≤x.2.1∧x.2.1<(((x.2.2.set x.2.1.toNat (t0.1,(t0.2.1,(t0.2.2.1,(t0.2.2.2.1,(y7.2,t0.2.2.2.2.2)))))).set x.2.1.toNat (((x.2.2.set x.2.1.toNat (t0.1,(t0.2.1,(t0.2.2.1,(t0.2.2.2.1,(y7.2,t0.2.2.2.2.2)))))).getD x.2.1.toNat (Ty.zero tTxn)).1,(((x.2.2.set x.2.1.toNat (t0.1,(t0.2.1,(t0.2.2.1,(t0.2.2.2.1,(y7.2,t0.2.2.2.2.2)))))).getD x.2.1.toNat (Ty.zero tTxn)).2.1,(((x.2.2.set x.2.1.toNat (t0.1,(t0.2.1,(t0.2.2.1,(t0.2.2.2.1,(y7.2,t0.2.2.2.2.2)))))).getD x.2.1.toNat (Ty.zero tTxn)).2.2.1,(((x.2.2.set x.2.1.toNat (t0.1,(t0.2.1,(t0.2.2.1,(t0.2.2.2.1,(y7.2,t0.2.2.2.2.2)))))).getD x.2.1.toNat (Ty.zero tTxn)).2.2.2.1,(((x.2.2.set x.2.1.toNat (t0.1,(t0.2.1,(t0.2.2.1,(t0.2.2.2.1,(y7.2,t0.2.2.2.2.2)))))).getD x.2.1.toNat (Ty.zero tTxn)).2.2.2.2.1,(y8.2,((x.2.2.set x.2.1.toNat (t0.1,(t0.2.1,(t0.2.2.1,(t0.2.2.2.1,(y7.2,t0.2.2.2.2.2)))))).getD x.2.1.toNat (Ty.zero tTxn)).2.2.2.2.2.2))))))).length:Int)then
 vdg (y8.1,x.2.1,(((x.2.2.set x.2.1.toNat (t0.1,(t0.2.1,(t0.2.2.1,(t0.2.2.2.1,(y7.2,t0.2.2.2.2.2)))))).set x.2.1.toNat (((x.2.2.set x.2.1.toNat (t0.1,(t0.2.1,(t0.2.2.1,(t0.2.2.2.1,(y7.2,t0.2.2.2.2.2)))))).getD x.2.1.toNat (Ty.zero tTxn)).1,(((x.2.2.set x.2.1.toNat (t0.1,(t0.2.1,(t0.2.2.1,(t0.2.2.2.1,(y7.2,t0.2.2.2.2.2)))))).getD x.2.1.toNat (Ty.zero tTxn)).2.1,(((x.2.2.set x.2.1.toNat (t0.1,(t0.2.1,(t0.2.2.1,(t0.2.2.2.1,(y7.2,t0.2.2.2.2.2)))))).getD x.2.1.toNat (Ty.zero tTxn)).2.2.1,(((x.2.2.set x.2.1.toNat (t0.1,(t0.2.1,(t0.2.2.1,(t0.2.2.2.1,(y7.2,t0.2.2.2.2.2)))))).getD x.2.1.toNat (Ty.zero tTxn)).2.2.2.1,(((x.2.2.set x.2.1.toNat (t0.1,(t0.2.1,(t0.2.2.1,(t0.2.2.2.1,(y7.2,t0.2.2.2.2.2)))))).getD x.2.1.toNat (Ty.zero tTxn)).2.2.2.2.1,(y8.2,((x.2.2.set x.2.1.toNat (t0.1,(t0.2.1,(t0.2.2.1,(t0.2.2.2.1,(y7.2,t0.2.2.2.2.2)))))).getD x.2.1.toNat (Ty.zero tTxn)).2.2.2.2.2.2))))))).set x.2.1.toNat ((((x.2.2.set x.2.1.toNat (t0.1,(t0.2.1,(t0.2.2.1,(t0.2.2.2.1,(y7.2,t0.2.2.2.2.2)))))).set x.2.1.toNat (((x.2.2.set x.2.1.toNat (t0.1,(t0.2.1,(t0.2.2.1,(t0.2.2.2.1,(y7.2,t0.2.2.2.2.2)))))).getD x.2.1.toNat (Ty.zero tTxn)).1,(((x.2.2.set x.2.1.toNat (t0.1,(t0.2.1,(t0.2.2.1,(t0.2.2.2.1,(y7.2,t0.2.2.2.2.2)))))).getD x.2.1.toNat (Ty.zero tTxn)).2.1,(((x.2.2.set x.2.1.toNat (t0.1,(t0.2.1,(t0.2.2.1,(t0.2.2.2.1,(y7.2,t0.2.2.2.2.2)))))).getD x.2.1.toNat (Ty.zero tTxn)).2.2.1,(((x.2.2.set x.2.1.toNat (t0.1,(t0.2.1,(t0.2.2.1,(t0.2.2.2.1,(y7.2,t0.2.2.2.2.2)))))).getD x.2.1.toNat (Ty.zero tTxn)).2.2.2.1,(((x.2.2.set x.2.1.toNat (t0.1,(t0.2.1,(t0.2.2.1,(t0.2.2.2.1,(y7.2,t0.2.2.2.2.2)))))).getD x.2.1.toNat (Ty.zero tTxn)).2.2.2.2.1,(y8.2,((x.2.2.set x.2.1.toNat (t0.1,(t0.2.1,(t0.2.2.1,(t0.2.2.2.1,(y7.2,t0.2.2.2.2.2)))))).getD x.2.1.toNat (Ty.zero tTxn)).2.2.2.2.2.2))))))).getD x.2.1.toNat (Ty.zero tTxn)).1,((((x.2.2.set x.2.1.toNat (t0.1,(t0.2.1,(t0.2.2.1,(t0.2.2.2.1,(y7.2,t0.2.2.2.2.2)))))).set x.2.1.toNat (((x.2.2.set x.2.1.toNat (t0.1,(t0.2.1,(t0.2.2.1,(t0.2.2.2.1,(y7.2,t0.2.2.2.2.2)))))).getD x.2.1.toNat (Ty.zero tTxn)).1,(((x.2.2.set x.2.1.toNat (t0.1,(t0.2.1,(t0.2.2.1,(t0.2.2.2.1,(y7.2,t0.2.2.2.2.2)))))).getD x.2.1.toNat (Ty.zero tTxn)).2.1,(((x.2.2.set x.2.1.toNat (t0.1,(t0.2.1,(t0.2.2.1,(t0.2.2.2.1,(y7.2,t0.2.2.2.2.2)))))).getD x.2.1.toNat (Ty.zero tTxn)).2.2.1,(((x.2.2.set x.2.1.toNat (t0.1,(t0.2.1,(t0.2.2.1,(t0.2.2.2.1,(y7.2,t0.2.2.2.2.2)))))).getD x.2.1.toNat (Ty.zero tTxn)).2.2.2.1,(((x.2.2.set x.2.1.toNat (t0.1,(t0.2.1,(t0.2.2.1,(t0.2.2.2.1,(y7.2,t0.2.2.2.2.2)))))).getD x.2.1.toNat (Ty.zero tTxn)).2.2.2.2.1,(y8.2,((x.2.2.set x.2.1.toNat (t0.1,(t0.2.1,(t0.2.2.1,(t0.2.2.2.1,(y7.2,t0.2.2.2.2.2)))))).getD x.2.1.toNat (Ty.zero tTxn)).2.2.2.2.2.2))))))).getD x.2.1.toNat (Ty.zero tTxn)).2.1,((((x.2.2.set x.2.1.toNat (t0.1,(t0.2.1,(t0.2.2.1,(t0.2.2.2.1,(y7.2,t0.2.2.2.2.2)))))).set x.2.1.toNat (((x.2.2.set x.2.1.toNat (t0.1,(t0.2.1,(t0.2.2.1,(t0.2.2.2.1,(y7.2,t0.2.2.2.2.2)))))).getD x.2.1.toNat (Ty.zero tTxn)).1,(((x.2.2.set x.2.1.toNat (t0.1,(t0.2.1,(t0.2.2.1,(t0.2.2.2.1,(y7.2,t0.2.2.2.2.2)))))).getD x.2.1.toNat (Ty.zero tTxn)).2.1,(((x.2.2.set x.2.1.toNat (t0.1,(t0.2.1,(t0.2.2.1,(t0.2.2.2.1,(y7.2,t0.2.2.2.2.2)))))).getD x.2.1.toNat (Ty.zero tTxn)).2.2.1,(((x.2.2.set x.2.1.toNat (t0.1,(t0.2.1,(t0.2.2.1,(t0.2.2.2.1,(y7.2,t0.2.2.2.2.2)))))).getD x.2.1.toNat (Ty.zero tTxn)).2.2.2.1,(((x.2.2.set x.2.1.toNat (t0.1,(t0.2.1,(t0.2.2.1,(t0.2.2.2.1,(y7.2,t0.2.2.2.2.2)))))).getD x.2.1.toNat (Ty.zero tTxn)).2.2.2.2.1,(y8.2,((x.2.2.set x.2.1.toNat (t0.1,(t0.2.1,(t0.2.2.1,(t0.2.2.2.1,(y7.2,t0.2.2.2.2.2)))))).getD x.2.1.toNat (Ty.zero tTxn)).2.2.2.2.2.2))))))).getD x.2.1.toNat (Ty.zero tTxn)).2.2.1,((((x.2.2.set x.2.1.toNat (t0.1,(t0.2.1,(t0.2.2.1,(t0.2.2.2.1,(y7.2,t0.2.2.2.2.2)))))).set x.2.1.toNat (((x.2.2.set x.2.1.toNat (t0.1,(t0.2.1,(t0.2.2.1,(t0.2.2.2.1,(y7.2,t0.2.2.2.2.2)))))).getD x.2.1.toNat (Ty.zero tTxn)).1,(((x.2.2.set x.2.1.toNat (t0.1,(t0.2.1,(t0.2.2.1,(t0.2.2.2.1,(y7.2,t0.2.2.2.2.2)))))).getD x.2.1.toNat (Ty.zero tTxn)).2.1,(((x.2.2.set x.2.1.toNat (t0.1,(t0.2.1,(t0.2.2.1,(t0.2.2.2.1,(y7.2,t0.2.2.2.2.2)))))).getD x.2.1.toNat (Ty.zero tTxn)).2.2.1,(((x.2.2.set x.2.1.toNat (t0.1,(t0.2.1,(t0.2.2.1,(t0.2.2.2.1,(y7.2,t0.2.2.2.2.2)))))).getD x.2.1.toNat (Ty.zero tTxn)).2.2.2.1,(((x.2.2.set x.2.1.toNat (t0.1,(t0.2.1,(t0.2.2.1,(t0.2.2.2.1,(y7.2,t0.2.2.2.2.2)))))).getD x.2.1.toNat (Ty.zero tTxn)).2.2.2.2.1,(y8.2,((x.2.2.set x.2.1.toNat (t0.1,(t0.2.1,(t0.2.2.1,(t0.2.2.2.1,(y7.2,t0.2.2.2.2.2)))))).getD x.2.1.toNat (Ty.zero tTxn)).2.2.2.2.2.2))))))).getD x.2.1.toNat (Ty.zero tTxn)).2.2.2.1,((((x.2.2.set x.2.1.toNat (t0.1,(t0.2.1,(t0.2.2.1,(t0.2.2.2.1,(y7.2,t0.2.2.2.2.2)))))).set x.2.1.toNat (((x.2.2.set x.2.1.toNat (t0.1,(t0.2.1,(t0.2.2.1,(t0.2.2.2.1,(y7.2,t0.2.2.2.2.2)))))).getD x.2.1.toNat (Ty.zero tTxn)).1,(((x.2.2.set x.2.1.toNat (t0.1,(t0.2.1,(t0.2.2.1,(t0.2.2.2.1,(y7.2,t0.2.2.2.2.2)))))).getD x.2.1.toNat (Ty.zero tTxn)).2.1,(((x.2.2.set x.2.1.toNat (t0.1,(t0.2.1,(t0.2.2.1,(t0.2.2.2.1,(y7.2,t0.2.2.2.2.2)))))).getD x.2.1.toNat (Ty.zero tTxn)).2.2.1,(((x.2.2.set x.2.1.toNat (t0.1,(t0.2.1,(t0.2.2.1,(t0.2.2.2.1,(y7.2,t0.2.2.2.2.2)))))).getD x.2.1.toNat (Ty.zero tTxn)).2.2.2.1,(((x.2.2.set x.2.1.toNat (t0.1,(t0.2.1,(t0.2.2.1,(t0.2.2.2.1,(y7.2,t0.2.2.2.2.2)))))).getD x.2.1.toNat (Ty.zero tTxn)).2.2.2.2.1,(y8.2,((x.2.2.set x.2.1.toNat (t0.1,(t0.2.1,(t0.2.2.1,(t0.2.2.2.1,(y7.2,t0.2.2.2.2.2)))))).getD x.2.1.toNat (Ty.zero tTxn)).2.2.2.2.2.2))))))).getD x.2.1.toNat (Ty.zero tTxn)).2.2.2.2.1,((((x.2.2.set x.2.1.toNat (t0.1,(t0.2.1,(t0.2.2.1,(t0.2.2.2.1,(y7.2,t0.2.2.2.2.2)))))).set x.2.1.toNat (((x.2.2.set x.2.1.toNat (t0.1,(t0.2.1,(t0.2.2.1,(t0.2.2.2.1,(y7.2,t0.2.2.2.2.2)))))).getD x.2.1.toNat (Ty.zero tTxn)).1,(((x.2.2.set x.2.1.toNat (t0.1,(t0.2.1,(t0.2.2.1,(t0.2.2.2.1,(y7.2,t0.2.2.2.2.2)))))).getD x.2.1.toNat (Ty.zero tTxn)).2.1,(((x.2.2.set x.2.1.toNat (t0.1,(t0.2.1,(t0.2.2.1,(t0.2.2.2.1,(y7.2,t0.2.2.2.2.2)))))).getD x.2.1.toNat (Ty.zero tTxn)).2.2.1,(((x.2.2.set x.2.1.toNat (t0.1,(t0.2.1,(t0.2.2.1,(t0.2.2.2.1,(y7.2,t0.2.2.2.2.2)))))).getD x.2.1.toNat (Ty.zero tTxn)).2.2.2.1,(((x.2.2.set x.2.1.toNat (t0.1,(t0.2.1,(t0.2.2.1,(t0.2.2.2.1,(y7.2,t0.2.2.2.2.2)))))).getD x.2.1.toNat (Ty.zero tTxn)).2.2.2.2.1,(y8.2,((x.2.2.set x.2.1.toNat (t0.1,(t0.2.1,(t0.2.2.1,(t0.2.2.2.1,(y7.2,t0.2.2.2.2.2)))))).getD x.2.1.toNat (Ty.zero tTxn)).2.2.2.2.2.2))))))).getD x.2.1.toNat (Ty.zero tTxn)).2.2.2.2.2.1,(((y8.1.tmod (3:Int))==(0:Int)),(((x.2.2.set x.2.1.toNat (t0.1,(t0.2.1,(t0.2.2.1,(t0.2.2.2.1,(y7.2,t0.2.2.2.2.2)))))).set x.2.1.toNat (((x.2.2.set x.2.1.toNat (t0.1,(t0.2.1,(t0.2.2.1,(t0.2.2.2.1,(y7.2,t0.2.2.2.2.2)))))).getD x.2.1.toNat (Ty.zero tTxn)).1,(((x.2.2.set x.2.1.toNat (t0.1,(t0.2.1,(t0.2.2.1,(t0.2.2.2.1,(y7.2,t0.2.2.2.2.2)))))).getD x.2.1.toNat (Ty.zero tTxn)).2.1,(((x.2.2.set x.2.1.toNat (t0.1,(t0.2.1,(t0.2.2.1,(t0.2.2.2.1,(y7.2,t0.2.2.2.2.2)))))).getD x.2.1.toNat (Ty.zero tTxn)).2.2.1,(((x.2.2.set x.2.1.toNat (t0.1,(t0.2.1,(t0.2.2.1,(t0.2.2.2.1,(y7.2,t0.2.2.2.2.2)))))).getD x.2.1.toNat (Ty.zero tTxn)).2.2.2.1,(((x.2.2.set x.2.1.toNat (t0.1,(t0.2.1,(t0.2.2.1,(t0.2.2.2.1,(y7.2,t0.2.2.2.2.2)))))).getD x.2.1.toNat (Ty.zero tTxn)).2.2.2.2.1,(y8.2,((x.2.2.set x.2.1.toNat (t0.1,(t0.2.1,(t0.2.2.1,(t0.2.2.2.1,(y7.2,t0.2.2.2.2.2)))))).getD x.2.1.toNat (Ty.zero tTxn)).2.2.2.2.2.2))))))).getD x.2.1.toNat (Ty.zero tTxn)).2.2.2.2.2.2.2))))))))) (fun z9=>
 k (z9.1,z9.2.1,z9.2.2))
 else none)
 else none)
 else none
instance n27n_jp5000011 (x:(Int×Int×(List dTxn))):ParC (vdf x):=by unfold vdf;(try dsimp only);infer_instance
def vdd (x:(Int×Int×(List dTxn)))(k:(Int×Int×(List dTxn))→Option Res):Option Res:=
 if 0≤x.2.1∧x.2.1<(x.2.2.length:Int)then
 vdf ((IntKind.wrap .i64 (x.1+1)),x.2.1,(x.2.2.set x.2.1.toNat ((x.2.2.getD x.2.1.toNat (Ty.zero tTxn)).1,((x.2.2.getD x.2.1.toNat (Ty.zero tTxn)).2.1,((x.2.2.getD x.2.1.toNat (Ty.zero tTxn)).2.2.1,((IntKind.wrap .i64 (x.1+1)),(x.2.2.getD x.2.1.toNat (Ty.zero tTxn)).2.2.2.2)))))) (fun z6=>
 k (z6.1,z6.2.1,z6.2.2))
 else none
instance n27n_jp5000009 (x:(Int×Int×(List dTxn))):ParC (vdd x):=by unfold vdd;(try dsimp only);infer_instance
def vc7 (x:(Int×Int×(List dTxn)))(k:(Int×Int×(List dTxn))→Option Res):Option Res:=
 if 0≤x.2.1∧x.2.1<(x.2.2.length:Int)then
 vdd ((IntKind.wrap .i64 (x.1+1)),x.2.1,(x.2.2.set x.2.1.toNat ((x.2.2.getD x.2.1.toNat (Ty.zero tTxn)).1,((x.2.2.getD x.2.1.toNat (Ty.zero tTxn)).2.1,((IntKind.wrap .i64 (x.1+1)),(x.2.2.getD x.2.1.toNat (Ty.zero tTxn)).2.2.2))))) (fun z5=>
 k (z5.1,z5.2.1,z5.2.2))
 else none
instance n27n_jp5000007 (x:(Int×Int×(List dTxn))):ParC (vc7 x):=by unfold vc7;(try dsimp only);infer_instance
def vda (x:(Int×Int×(List dTxn)))(k:(Int×Int×(List dTxn))→Option Res):Option Res:=
 if 0≤x.2.1∧x.2.1<(x.2.2.length:Int)then
 vc7 ((IntKind.wrap .i64 (x.1+1)),x.2.1,(x.2.2.set x.2.1.toNat ((x.2.2.getD x.2.1.toNat (Ty.zero tTxn)).1,((IntKind.wrap .i64 (x.1+1)),(x.2.2.getD x.2.1.toNat (Ty.zero tTxn)).2.2)))) (fun z4=>
 k (z4.1,z4.2.1,z4.2.2))
 else none
instance n27n_jp5000005 (x:(Int×Int×(List dTxn))):ParC (vda x):=by unfold vda;(try dsimp only);infer_instance
def via (x:(Int×Int×(List dTxn)))(k:(Int×Int×(List dTxn))⊕(Int×Int×(List dTxn))→Option Res):Option Res:=
 bif (decide (x.2.1<(x.2.2.length:Int)))then
 if 0≤x.2.1∧x.2.1<(x.2.2.length:Int)then
 vda (x.1,x.2.1,(x.2.2.set x.2.1.toNat (x.1,(x.2.2.getD x.2.1.toNat (Ty.zero tTxn)).2))) (fun z2=>
 vc8 (z2.1,z2.2.1,z2.2.2) (fun z3=>
 k (.inl (z3.1,z3.2.1,z3.2.2))))
 else none
 else
 k (.inr (x.1,x.2.1,x.2.2))
instance n27n_bp0 (x:(Int×Int×(List dTxn))):ParC (via x):=by unfold via;(try dsimp only);infer_instance
def v0z (a0:Int)(a1:(List dTxn))(k:(Int×(List dTxn))→Option Res):Option Res:=
 vac via Fuel (a0,0,a1) (fun z1=>
 k (z1.1,z1.2.2))
def vlo:=shut v0z
theorem v4x:vlo=v0z:=vai _
instance n27n_p (a0:Int)(a1:(List dTxn)):ParC (vlo a0 a1):=by rw [v4x];unfold v0z;(try dsimp only);infer_instance
def v1l (a0:Int)(a1:Int)(a2:Int)(a3:(List vaa))(a4:(List dTxn))(a5:(List dTxn))(k:q24T→Option Res):Option Res:=
 vx1 a2 a3 (fun y1=>
 vlo y1.1 a4 (fun y2=>
 vlo y2.1 a5 (fun y3=>
 k (y3.1,y1.2,y2.2,y3.2))))
def vlw:=shut v1l
theorem v44:vlw=v1l:=vai _
instance n24n_p (a0:Int)(a1:Int)(a2:Int)(a3:(List vaa))(a4:(List dTxn))(a5:(List dTxn)):ParC (vlw a0 a1 a2 a3 a4 a5):=by rw [v44];unfold v1l;(try dsimp only);infer_instance
def vi1 (x:q17T)(k:q17T⊕(q17T⊕q17T)→Option Res):Option Res:=
 let t0:=(IntKind.wrap .i64 ((IntKind.wrap .i64 (x.2.1+(1:Int)))+(1:Int)))
 let t1:=(rd (Ty.zero tVersion) x.1 x.2.2.2)
 bif (decide (x.2.2.2<(x.1.length:Int)))then
 if 0≤x.2.2.2∧x.2.2.2<(x.1.length:Int)then
 vbv x.2.1 (fun y3=>
 bif (!(vbh (t1.1) y3))then
 k (.inr (.inl (x.1,x.2.1,(-1:Int),x.2.2.2)))
 else
 if 0≤x.2.2.2∧x.2.2.2<(x.1.length:Int)then
 vbv (IntKind.wrap .i64 (x.2.1+1)) (fun y4=>
 bif (!(vbh (t1.2.1) y4))then
 k (.inr (.inl (x.1,(IntKind.wrap .i64 (x.2.1+1)),(-1:Int),x.2.2.2)))
 else
 if 0≤x.2.2.2∧x.2.2.2<(x.1.length:Int)then
 bif (!(t1.2.2.1==((t0.tmod (3:Int))==(0:Int))))then
 k (.inr (.inl (x.1,t0,(-1:Int),x.2.2.2)))
 else
 if 0≤x.2.2.2∧x.2.2.2<(x.1.length:Int)then
 bif (t1.2.2.2 != (IntKind.wrap .i64 (t0+1)))then
 k (.inr (.inl (x.1,(IntKind.wrap .i64 (t0+1)),(-1:Int),x.2.2.2)))
 else
 k (.inl (x.1,(IntKind.wrap .i64 ((IntKind.wrap .i64 (t0+1))+1)),x.2.2.1,(IntKind.wrap .i64 (x.2.2.2+1))))
 else none
 else none)
 else none)
 else none
 else
 k (.inr (.inr (x.1,x.2.1,x.2.2.1,x.2.2.2)))
instance n22n_bp0 (x:q17T):ParC (vi1 x):=by unfold vi1;(try dsimp only);infer_instance
def v0x (a0:(List vaa))(a1:Int)(k:Int→Option Res):Option Res:=
 vac vi1 Fuel (a0,a1,0,0) (Sum.elim (fun z1=>
 k z1.2.2.1) (fun z2=>
 k z2.2.1))
def vsc:=shut v0x
theorem v7z:vsc=v0x:=vai _
instance n22n_p (a0:(List vaa))(a1:Int):ParC (vsc a0 a1):=by rw [v7z];unfold v0x;(try dsimp only);infer_instance
def vjc (x:q2T)(k:q2T⊕(q2T⊕q2T)→Option Res):Option Res:=
 bif (decide (x.2.2.2<(x.1.length:Int)))then
 if 0≤x.2.2.2∧x.2.2.2<(x.1.length:Int)then
 vbv x.2.1 (fun y3=>
 bif (!(vbh ((rd (Ty.zero tRange) x.1 x.2.2.2).1) y3))then
 k (.inr (.inl (x.1,x.2.1,(-1:Int),x.2.2.2)))
 else
 if 0≤x.2.2.2∧x.2.2.2<(x.1.length:Int)then
 vbv (IntKind.wrap .i64 (x.2.1+1)) (fun y4=>
 bif (!(vbh ((rd (Ty.zero tRange) x.1 x.2.2.2).2) y4))then
 k (.inr (.inl (x.1,(IntKind.wrap .i64 (x.2.1+1)),(-1:Int),x.2.2.2)))
 else
 k (.inl (x.1,(IntKind.wrap .i64 ((IntKind.wrap .i64 (x.2.1+1))+1)),x.2.2.1,(IntKind.wrap .i64 (x.2.2.2+1)))))
 else none)
 else none
 else
 k (.inr (.inr (x.1,x.2.1,x.2.2.1,x.2.2.2)))
instance n20n_bp0 (x:q2T):ParC (vjc x):=by unfold vjc;(try dsimp only);infer_instance
def v18 (a0:(List vaj))(a1:Int)(k:Int→Option Res):Option Res:=
 vac vjc Fuel (a0,a1,0,0) (Sum.elim (fun z1=>
 k z1.2.2.1) (fun z2=>
 k z2.2.1))
def vp5:=shut v18
theorem v5q:vp5=v18:=vai _
instance n20n_p (a0:(List vaj))(a1:Int):ParC (vp5 a0 a1):=by rw [v5q];unfold v18;(try dsimp only);infer_instance
def viy (x:q20T)(k:q20T⊕(q20T⊕q20T)→Option Res):Option Res:=
 let t0:=(IntKind.wrap .i64 (x.2.1+(1:Int)))
 bif (decide (x.2.2.2<(x.1.length:Int)))then
 if 0≤x.2.2.2∧x.2.2.2<(x.1.length:Int)then
 vbv x.2.1 (fun y3=>
 bif (!(vbh ((rd (Ty.zero tWrite) x.1 x.2.2.2).1) y3))then
 k (.inr (.inl (x.1,x.2.1,(-1:Int),x.2.2.2)))
 else
 if 0≤x.2.2.2∧x.2.2.2<(x.1.length:Int)then
 vbv t0 (fun y4=>
 bif (!(vbh ((rd (Ty.zero tWrite) x.1 x.2.2.2).2.1) y4))then
 k (.inr (.inl (x.1,t0,(-1:Int),x.2.2.2)))
 else
 if 0≤x.2.2.2∧x.2.2.2<(x.1.length:Int)then
 bif (!((rd (Ty.zero tWrite) x.1 x.2.2.2).2.2==(((IntKind.wrap .i64 (t0+1)).tmod (3:Int))==(0:Int))))then
 k (.inr (.inl (x.1,(IntKind.wrap .i64 (t0+1)),(-1:Int),x.2.2.2)))
 else
 k (.inl (x.1,(IntKind.wrap .i64 ((IntKind.wrap .i64 (t0+1))+1)),x.2.2.1,(IntKind.wrap .i64 (x.2.2.2+1))))
 else none)
 else none)
 else none
 else
 k (.inr (.inr (x.1,x.2.1,x.2.2.1,x.2.2.2)))
instance n23n_bp0 (x:q20T):ParC (viy x):=by unfold viy;(try dsimp only);infer_instance
def v1f (a0:(List vak))(a1:Int)(k:Int→Option Res):Option Res:=
 vac viy Fuel (a0,a1,0,0) (Sum.elim (fun z1=>
 k z1.2.2.1) (fun z2=>
 k z2.2.1))
def vrl:=shut v1f
theorem v40:vrl=v1f:=vai _
instance n23n_p (a0:(List vak))(a1:Int):ParC (vrl a0 a1):=by rw [v40];unfold v1f;(try dsimp only);infer_instance
def vir (x:q8T)(k:q8T⊕(q8T⊕q8T)→Option Res):Option Res:=
 let t0:=(IntKind.wrap .i64 ((IntKind.wrap .i64 (x.2.1+(1:Int)))+(1:Int)))
 let t1:=(rd (Ty.zero tTxn) x.1 x.2.2.2)
 bif (decide (x.2.2.2<(x.1.length:Int)))then
 if 0≤x.2.2.2∧x.2.2.2<(x.1.length:Int)then
 bif (t1.1 != x.2.1)then
 k (.inr (.inl (x.1,x.2.1,(-1:Int),x.2.2.2)))
 else
 if 0≤x.2.2.2∧x.2.2.2<(x.1.length:Int)then
 bif (t1.2.1 != (IntKind.wrap .i64 (x.2.1+1)))then
 k (.inr (.inl (x.1,(IntKind.wrap .i64 (x.2.1+1)),(-1:Int),x.2.2.2)))
 else
 if 0≤x.2.2.2∧x.2.2.2<(x.1.length:Int)then
 bif (t1.2.2.1 != t0)then
 k (.inr (.inl (x.1,t0,(-1:Int),x.2.2.2)))
 else
 if 0≤x.2.2.2∧x.2.2.2<(x.1.length:Int)then
 bif (t1.2.2.2.1 != (IntKind.wrap .i64 (t0+1)))then
 k (.inr (.inl (x.1,(IntKind.wrap .i64 (t0+1)),(-1:Int),x.2.2.2)))
 else
 if 0≤x.2.2.2∧x.2.2.2<(x.1.length:Int)then
 vp5 (t1.2.2.2.2.1) (IntKind.wrap .i64 ((IntKind.wrap .i64 (t0+1))+1)) (fun y3=>
 bif (decide (y3<0))then
 k (.inr (.inl (x.1,y3,(-1:Int),x.2.2.2)))
 else
 if 0≤x.2.2.2∧x.2.2.2<(x.1.length:Int)then
 vrl (t1.2.2.2.2.2.1) y3 (fun y4=>
 bif (decide (y4<0))then
 k (.inr (.inl (x.1,y4,(-1:Int),x.2.2.2)))
 else
 if 0≤x.2.2.2∧x.2.2.2<(x.1.length:Int)then
 bif (!(t1.2.2.2.2.2.2.1==((y4.tmod (3:Int))==(0:Int))))then
 k (.inr (.inl (x.1,y4,(-1:Int),x.2.2.2)))
 else
 if 0≤x.2.2.2∧x.2.2.2<(x.1.length:Int)then
 vbv (IntKind.wrap .i64 (y4+1)) (fun y5=>
 bif (!(vbh (t1.2.2.2.2.2.2.2) y5))then
 k (.inr (.inl (x.1,(IntKind.wrap .i64 (y4+1)),(-1:Int),x.2.2.2)))
 else
 k (.inl (x.1,(IntKind.wrap .i64 ((IntKind.wrap .i64 (y4+1))+1)),x.2.2.1,(IntKind.wrap .i64 (x.2.2.2+1)))))
 else none
 else none)
 else none)
 else none
 else none
 else none
 else none
 else none
 else
 k (.inr (.inr (x.1,x.2.1,x.2.2.1,x.2.2.2)))
instance n21n_bp0 (x:q8T):ParC (vir x):=by unfold vir;(try dsimp only);exact⟨(vbd (vcv (vbd (vat _) (vcv (vbd (vat _) (vcv (vbd (vat _) (vcv (vbd (vat _) (vcv ((n20n_p _ _).p.bind fun y3=>(vbd (vat _) (vcv ((n23n_p _ _).p.bind fun y4=>(vbd (vat _) (vcv (vbd (vat _) (vcv ((n26n_p _).p.bind fun y5=>(vbd (vat _) (vat _))) vbp)) vbp))) vbp))) vbp)) vbp)) vbp)) vbp)) vbp) (vat _))⟩
def v0v (a0:(List dTxn))(a1:Int)(k:Int→Option Res):Option Res:=
 vac vir Fuel (a0,a1,0,0) (Sum.elim (fun z1=>
 k z1.2.2.1) (fun z2=>
 k z2.2.1))
def vp1:=shut v0v
theorem v7n:vp1=v0v:=vai _
instance n21n_p (a0:(List dTxn))(a1:Int):ParC (vp1 a0 a1):=by rw [v7n];unfold v0v;(try dsimp only);infer_instance
def v0q (a0:vcn)(a1:Int)(k:Int→Option Res):Option Res:=
 vsc a0.1 a1 (fun y1=>
 bif (decide (y1<0))then
 k (-1:Int)
 else
 vp1 a0.2.1 y1 (fun y2=>
 bif (decide (y2<0))then
 k (-1:Int)
 else
 vp1 a0.2.2.1 y2 (fun y3=>
 bif (decide (y3<0))then
 k (-1:Int)
 else
 k y3)))
def vlp:=shut v0q
theorem v73:vlp=v0q:=vai _
instance n19n_p (a0:vcn)(a1:Int):ParC (vlp a0 a1):=by rw [v73];unfold v0q;(try dsimp only);infer_instance
def vcf (x:q4T)(k:q4T→Option Res):Option Res:=
 let xh:=x.2.2.2.2.2.2.2.2
 vlw xh.2.1 xh.2.2.1 (1:Int) xh.2.2.2.2.2.2.1 xh.2.2.2.2.2.2.2.1 xh.2.2.2.2.2.2.2.2 (fun y18=>
 vlp (y18.2.1,(y18.2.2.1,(y18.2.2.2,(xh.2.1,xh.2.2.1)))) (1:Int) (fun y19=>
 bif (decide (y19<0))then
 k (x.1,false,x.2.2.1,x.2.2.2.1,x.2.2.2.2.1,x.2.2.2.2.2.1,x.2.2.2.2.2.2.1,x.2.2.2.2.2.2.2.1,xh.1,xh.2.1,xh.2.2.1,xh.2.2.2.1,xh.2.2.2.2.1,xh.2.2.2.2.2.1,y18.2.1,y18.2.2.1,y18.2.2.2)
 else
 bif (y19 != y18.1)then
 k (x.1,false,x.2.2.1,x.2.2.2.1,x.2.2.2.2.1,x.2.2.2.2.2.1,x.2.2.2.2.2.2.1,x.2.2.2.2.2.2.2.1,xh.1,xh.2.1,xh.2.2.1,xh.2.2.2.1,xh.2.2.2.2.1,xh.2.2.2.2.2.1,y18.2.1,y18.2.2.1,y18.2.2.2)
 else
 vgn (x.2.2.1,(x.2.2.2.1,(x.2.2.2.2.1,(x.2.2.2.2.2.1,x.2.2.2.2.2.2.1)))) (fun y20=>
 veo x.1 (fun y21=>
 vnx (y20.2.2.1,(y20.2.2.2.1,(y20.2.2.2.2,(y20.1,y20.2.1)))) y21 (fun y22=>
 ve2 (y22.2.2.1,(y22.2.2.2.1,(y22.2.2.2.2,(y22.1,y22.2.1)))) (xh.2.2.2.1,(xh.2.2.2.2.1,(xh.2.2.2.2.2.1,(x.2.2.2.2.2.2.2.1,xh.1)))) (fun y23=>
 bif (!y23)then
 k (x.1,false,x.2.2.1,x.2.2.2.1,x.2.2.2.2.1,x.2.2.2.2.2.1,x.2.2.2.2.2.2.1,x.2.2.2.2.2.2.2.1,xh.1,xh.2.1,xh.2.2.1,xh.2.2.2.1,xh.2.2.2.2.1,xh.2.2.2.2.2.1,y18.2.1,y18.2.2.1,y18.2.2.2)
 else
 vlp (y18.2.1,(y18.2.2.1,(y18.2.2.2,(xh.2.1,xh.2.2.1)))) (1:Int) (fun y24=>
 bif (decide (y24<0))then
 k (x.1,false,x.2.2.1,x.2.2.2.1,x.2.2.2.2.1,x.2.2.2.2.2.1,x.2.2.2.2.2.2.1,x.2.2.2.2.2.2.2.1,xh.1,xh.2.1,xh.2.2.1,xh.2.2.2.1,xh.2.2.2.2.1,xh.2.2.2.2.2.1,y18.2.1,y18.2.2.1,y18.2.2.2)
 else
 bif (y24 != y18.1)then
 k (x.1,false,x.2.2.1,x.2.2.2.1,x.2.2.2.2.1,x.2.2.2.2.2.1,x.2.2.2.2.2.2.1,x.2.2.2.2.2.2.2.1,xh.1,xh.2.1,xh.2.2.1,xh.2.2.2.1,xh.2.2.2.2.1,xh.2.2.2.2.2.1,y18.2.1,y18.2.2.1,y18.2.2.2)
 else
 k (x.1,true,x.2.2.1,x.2.2.2.1,x.2.2.2.2.1,x.2.2.2.2.2.1,x.2.2.2.2.2.2.1,x.2.2.2.2.2.2.2.1,xh.1,xh.2.1,xh.2.2.1,xh.2.2.2.1,xh.2.2.2.2.1,xh.2.2.2.2.2.1,y18.2.1,y18.2.2.1,y18.2.2.2))))))))
instance n09n_jp5000023 (x:q4T):ParC (vcf x):=by unfold vcf;(try dsimp only);exact⟨((n24n_p _ _ _ _ _ _).p.bind fun y18=>((n19n_p _ _).p.bind fun y19=>(vbd (vat _) (vbd (vat _) ((n39n_p _).p.bind fun y20=>((n43n_p _).p.bind fun y21=>((n01n_p _ _).p.bind fun y22=>((n10n_p _ _).p.bind fun y23=>(vbd (vat _) ((n19n_p _ _).p.bind fun y24=>(vbd (vat _) (vbd (vat _) (vat _)))))))))))))⟩
def v1k (a0:vcn)(a1:(List dTxn))(k:Bool→Option Res):Option Res:=
 vt3 a0 (1048576:Int) (fun y1=>
 bif (decide (y1<0))then
 k true
 else
 vnr a1 y1 (fun y2=>
 bif (decide (y2<0))then
 k true
 else
 vgn a0 (fun y3=>
 veo a1 (fun y4=>
 vpg (y3.2.2.1,(y3.2.2.2.1,(y3.2.2.2.2,(y3.1,y3.2.1)))) y4 (fun y5=>
 vgn a0 (fun y6=>
 veo a1 (fun y7=>
 vnx (y6.2.2.1,(y6.2.2.2.1,(y6.2.2.2.2,(y6.1,y6.2.1)))) y7 (fun y8=>
 ve2 (y8.2.2.1,(y8.2.2.2.1,(y8.2.2.2.2,(y8.1,y8.2.1)))) (y5.2.2.1,(y5.2.2.2.1,(y5.2.2.2.2,(y5.1,y5.2.1)))) (fun y9=>
 bif (!y9)then
 k false
 else
 vgn a0 (fun y10=>
 ve2 (y6.2.2.1,(y6.2.2.2.1,(y6.2.2.2.2,(y6.1,y6.2.1)))) (y10.2.2.1,(y10.2.2.2.1,(y10.2.2.2.2,(y10.1,y10.2.1)))) (fun y11=>
 bif (!y11)then
 k false
 else
 veo a1 (fun y12=>
 vkh y7 y12 (fun y13=>
 bif (!y13)then
 k false
 else
 vlw y6.1 y6.2.1 (1:Int) y6.2.2.1 y6.2.2.2.1 y6.2.2.2.2 (fun y14=>
 vlo y14.1 y7 (fun y15=>
 bif (decide (y15.1<0))then
 k false
 else
 ve2 (y8.2.2.1,(y8.2.2.2.1,(y8.2.2.2.2,(y8.1,y8.2.1)))) (y5.2.2.1,(y5.2.2.2.1,(y5.2.2.2.2,(y5.1,y5.2.1)))) (fun y16=>
 bif (!y16)then
 k false
 else
 vcf (a1,false,a0.1,a0.2.1,a0.2.2.1,a0.2.2.2.1,a0.2.2.2.2,y5.1,y5.2.1,y8.1,y8.2.1,y5.2.2.1,y5.2.2.2.1,y5.2.2.2.2,y8.2.2.1,y8.2.2.2.1,y8.2.2.2.2) (fun z17=>
 k z17.2.1)))))))))))))))))
def vw6:=shut v1k
theorem v7y:vw6=v1k:=vai _
instance n09n_p (a0:vcn)(a1:(List dTxn)):ParC (vw6 a0 a1):=by rw [v7y];unfold v1k;(try dsimp only);exact⟨((n30n_p _ _).p.bind fun y1=>(vbd (vat _) ((n34n_p _ _).p.bind fun y2=>(vbd (vat _) ((n39n_p _).p.bind fun y3=>((n43n_p _).p.bind fun y4=>((n51n_p _ _).p.bind fun y5=>((n39n_p _).p.bind fun y6=>((n43n_p _).p.bind fun y7=>((n01n_p _ _).p.bind fun y8=>((n10n_p _ _).p.bind fun y9=>(vbd (vat _) ((n39n_p _).p.bind fun y10=>((n10n_p _ _).p.bind fun y11=>(vbd (vat _) ((n43n_p _).p.bind fun y12=>((n14n_p _ _).p.bind fun y13=>(vbd (vat _) ((n24n_p _ _ _ _ _ _).p.bind fun y14=>((n27n_p _ _).p.bind fun y15=>(vbd (vat _) ((n10n_p _ _).p.bind fun y16=>(vbd (vat _) ((n09n_jp5000023 _).p.bind fun z17=>(vat _)))))))))))))))))))))))))⟩
def wcr (args:List AV)(st:St)(k:K1):Option Res:=
 val [.agg [.str,.str,.bool,.i],.i] [] args st (fun p q=>vt4 (p.1.1,(p.1.2.1,(p.1.2.2.1,p.1.2.2.2.1))) p.2.1 (fun(y:Int)=>k (.i y) []))
 (none)
def wbr (args:List AV)(st:St)(k:K1):Option Res:=
 val [.lst tVersion,.i] [] args st (fun p q=>vww p.1 p.2.1 (fun(y:Int)=>k (.i y) []))
 (none)
def wcy (args:List AV)(st:St)(k:K1):Option Res:=
 val [.agg [.str,.str],.i] [] args st (fun p q=>vtl (p.1.1,p.1.2.1) p.2.1 (fun(y:Int)=>k (.i y) []))
 (none)
def wcv (args:List AV)(st:St)(k:K1):Option Res:=
 val [.lst tRange,.i] [] args st (fun p q=>vxt p.1 p.2.1 (fun(y:Int)=>k (.i y) []))
 (none)
def wb0 (args:List AV)(st:St)(k:K1):Option Res:=
 val [.agg [.str,.str,.bool],.i] [] args st (fun p q=>vse (p.1.1,(p.1.2.1,p.1.2.2.1)) p.2.1 (fun(y:Int)=>k (.i y) []))
 (none)
def wc6 (args:List AV)(st:St)(k:K1):Option Res:=
 val [.lst tWrite,.i] [] args st (fun p q=>vwm p.1 p.2.1 (fun(y:Int)=>k (.i y) []))
 (none)
def wc1 (args:List AV)(st:St)(k:K1):Option Res:=
 val [.agg [.i,.i,.i,.i,.lst tRange,.lst tWrite,.bool,.str],.i] [] args st (fun p q=>vtw (p.1.1,(p.1.2.1,(p.1.2.2.1,(p.1.2.2.2.1,(p.1.2.2.2.2.1,(p.1.2.2.2.2.2.1,(p.1.2.2.2.2.2.2.1,p.1.2.2.2.2.2.2.2.1))))))) p.2.1 (fun(y:Int)=>k (.i y) []))
 (none)
def wcd (args:List AV)(st:St)(k:K1):Option Res:=
 val [.lst tTxn,.i] [] args st (fun p q=>vnr p.1 p.2.1 (fun(y:Int)=>k (.i y) []))
 (none)
def wcz (args:List AV)(st:St)(k:K1):Option Res:=
 val [.agg [.lst tVersion,.lst tTxn,.lst tTxn,.i,.i],.i] [] args st (fun p q=>vt3 (p.1.1,(p.1.2.1,(p.1.2.2.1,(p.1.2.2.2.1,p.1.2.2.2.2.1)))) p.2.1 (fun(y:Int)=>k (.i y) []))
 (none)
def wc8 (args:List AV)(st:St)(k:K1):Option Res:=
 val [.agg [.str,.str,.bool,.i]] [] args st (fun p q=>vtv (p.1.1,(p.1.2.1,(p.1.2.2.1,p.1.2.2.2.1))) (fun(y:q21T)=>k (.agg [.str y.1,.str y.2.1,.bool y.2.2.1,.i y.2.2.2]) []))
 (none)
def wca (args:List AV)(st:St)(k:K1):Option Res:=
 val [.lst tVersion] [] args st (fun p q=>vtx p.1 (fun(y:(List vaa))=>k (.own 0) [.arr tVersion y]))
 (none)
def wcf (args:List AV)(st:St)(k:K1):Option Res:=
 val [.agg [.str,.str]] [] args st (fun p q=>vr5 (p.1.1,p.1.2.1) (fun(y:(ByteArray×ByteArray))=>k (.agg [.str y.1,.str y.2]) []))
 (none)
def wc7 (args:List AV)(st:St)(k:K1):Option Res:=
 val [.lst tRange] [] args st (fun p q=>vt9 p.1 (fun(y:(List vaj))=>k (.own 0) [.arr tRange y]))
 (none)
def wct (args:List AV)(st:St)(k:K1):Option Res:=
 val [.agg [.str,.str,.bool]] [] args st (fun p q=>vsf (p.1.1,(p.1.2.1,p.1.2.2.1)) (fun(y:(ByteArray×ByteArray×Bool))=>k (.agg [.str y.1,.str y.2.1,.bool y.2.2]) []))
 (none)
def wcw (args:List AV)(st:St)(k:K1):Option Res:=
 val [.lst tWrite] [] args st (fun p q=>vsa p.1 (fun(y:(List vak))=>k (.own 0) [.arr tWrite y]))
 (none)
def wdc (args:List AV)(st:St)(k:K1):Option Res:=
 val [.agg [.i,.i,.i,.i,.lst tRange,.lst tWrite,.bool,.str]] [] args st (fun p q=>vpm (p.1.1,(p.1.2.1,(p.1.2.2.1,(p.1.2.2.2.1,(p.1.2.2.2.2.1,(p.1.2.2.2.2.2.1,(p.1.2.2.2.2.2.2.1,p.1.2.2.2.2.2.2.2.1))))))) (fun(y:q31T)=>k (.agg [.i y.1,.i y.2.1,.i y.2.2.1,.i y.2.2.2.1,.own 0,.own 1,.bool y.2.2.2.2.1,.str y.2.2.2.2.2.1]) [.arr tRange y.2.2.2.2.2.2.1,.arr tWrite y.2.2.2.2.2.2.2]))
 (none)
def wck (args:List AV)(st:St)(k:K1):Option Res:=
 val [.lst tTxn] [] args st (fun p q=>veo p.1 (fun(y:(List dTxn))=>k (.own 0) [.dep tTxn y 0 []]))
 (none)
def wb7 (args:List AV)(st:St)(k:K1):Option Res:=
 val [.agg [.lst tVersion,.lst tTxn,.lst tTxn,.i,.i]] [] args st (fun p q=>vgn (p.1.1,(p.1.2.1,(p.1.2.2.1,(p.1.2.2.2.1,p.1.2.2.2.2.1)))) (fun(y:q26T)=>k (.agg [.own 0,.own 1,.own 2,.i y.1,.i y.2.1]) [.arr tVersion y.2.2.1,.dep tTxn y.2.2.2.1 0 [],.dep tTxn y.2.2.2.2 0 []]))
 (none)
def wcn (args:List AV)(st:St)(k:K1):Option Res:=
 val [.agg [.i,.i,.i,.i,.lst tRange,.lst tWrite,.bool,.str]] [] args st (fun p q=>vnl (p.1.1,(p.1.2.1,(p.1.2.2.1,(p.1.2.2.2.1,(p.1.2.2.2.2.1,(p.1.2.2.2.2.2.1,(p.1.2.2.2.2.2.2.1,p.1.2.2.2.2.2.2.2.1))))))) (fun(y:q31T)=>k (.agg [.i y.1,.i y.2.1,.i y.2.2.1,.i y.2.2.2.1,.own 0,.own 1,.bool y.2.2.2.2.1,.str y.2.2.2.2.2.1]) [.arr tRange y.2.2.2.2.2.2.1,.arr tWrite y.2.2.2.2.2.2.2]))
 (none)
def wdd (args:List AV)(st:St)(k:K1):Option Res:=
 val [.lst tTxn] [] args st (fun p q=>vpu p.1 (fun(y:(List dTxn))=>k (.own 0) [.arr tTxn y]))
 (none)
def wcx (args:List AV)(st:St)(k:K1):Option Res:=
 val [.agg [.lst tVersion,.lst tTxn,.lst tTxn,.i,.i]] [] args st (fun p q=>vs9 (p.1.1,(p.1.2.1,(p.1.2.2.1,(p.1.2.2.2.1,p.1.2.2.2.2.1)))) (fun(y:q26T)=>k (.agg [.own 0,.own 1,.own 2,.i y.1,.i y.2.1]) [.arr tVersion y.2.2.1,.arr tTxn y.2.2.2.1,.arr tTxn y.2.2.2.2]))
 (none)
def wb8 (args:List AV)(st:St)(k:K1):Option Res:=
 val [.agg [.lst tVersion,.lst tTxn,.lst tTxn,.i,.i],.lst tTxn] [] args st (fun p q=>vp8 (p.1.1,(p.1.2.1,(p.1.2.2.1,(p.1.2.2.2.1,p.1.2.2.2.2.1)))) p.2.1 (fun(y:Int)=>k (.i y) []))
 (none)
def wc9 (args:List AV)(st:St)(k:K1):Option Res:=
 val [.lst tVersion,.str,.i] [] args st (fun p q=>vra p.1 p.2.1 p.2.2.1 (fun(y:Int)=>k (.i y) []))
 (none)
def wc5 (args:List AV)(st:St)(k:K1):Option Res:=
 val [.lst tVersion,.i] [] args st (fun p q=>vo7 p.1 p.2.1 (fun(y:(List vaa))=>k (.own 0) [.arr tVersion y]))
 (none)
def wb3 (args:List AV)(st:St)(k:K1):Option Res:=
 val [.agg [.lst tVersion,.lst tTxn,.lst tTxn,.i,.i],.lst tTxn] [] args st (fun p q=>vpg (p.1.1,(p.1.2.1,(p.1.2.2.1,(p.1.2.2.2.1,p.1.2.2.2.2.1)))) p.2.1 (fun(y:q26T)=>k (.agg [.own 0,.own 1,.own 2,.i y.1,.i y.2.1]) [.arr tVersion y.2.2.1,.arr tTxn y.2.2.2.1,.arr tTxn y.2.2.2.2]))
 (none)
def wbs (args:List AV)(st:St)(k:K1):Option Res:=
 val [.agg [.i,.i,.i,.i,.lst tRange,.lst tWrite,.bool,.str]] [] args st (fun p q=>vtn (p.1.1,(p.1.2.1,(p.1.2.2.1,(p.1.2.2.2.1,(p.1.2.2.2.2.1,(p.1.2.2.2.2.2.1,(p.1.2.2.2.2.2.2.1,p.1.2.2.2.2.2.2.2.1))))))) (fun(y:q31T)=>k (.agg [.i y.1,.i y.2.1,.i y.2.2.1,.i y.2.2.2.1,.own 0,.own 1,.bool y.2.2.2.2.1,.str y.2.2.2.2.2.1]) [.arr tRange y.2.2.2.2.2.2.1,.arr tWrite y.2.2.2.2.2.2.2]))
 (none)
def wb9 (args:List AV)(st:St)(k:K1):Option Res:=
 val [.lst tTxn] [] args st (fun p q=>vo8 p.1 (fun(y:(List dTxn))=>k (.own 0) [.dep tTxn y 0 []]))
 (none)
def wbu (args:List AV)(st:St)(k:K1):Option Res:=
 val [.agg [.lst tVersion,.lst tTxn,.lst tTxn,.i,.i]] [] args st (fun p q=>vwq (p.1.1,(p.1.2.1,(p.1.2.2.1,(p.1.2.2.2.1,p.1.2.2.2.2.1)))) (fun(y:q26T)=>k (.agg [.own 0,.own 1,.own 2,.i y.1,.i y.2.1]) [.arr tVersion y.2.2.1,.dep tTxn y.2.2.2.1 0 [],.dep tTxn y.2.2.2.2 0 []]))
 (none)
def wcp (args:List AV)(st:St)(k:K1):Option Res:=
 val [.agg [.lst tVersion,.lst tTxn,.lst tTxn,.i,.i],.lst tTxn] [] args st (fun p q=>vr6 (p.1.1,(p.1.2.1,(p.1.2.2.1,(p.1.2.2.2.1,p.1.2.2.2.2.1)))) p.2.1 (fun(y:Int)=>k (.i y) []))
 (none)
def wby (args:List AV)(st:St)(k:K1):Option Res:=
 val [.agg [.i,.i,.i,.i,.lst tRange,.lst tWrite,.bool,.str],.bp 0 0] [.box [.i]] args st (fun p q=>vno (p.1.1,(p.1.2.1,(p.1.2.2.1,(p.1.2.2.2.1,(p.1.2.2.2.2.1,(p.1.2.2.2.2.2.1,(p.1.2.2.2.2.2.2.1,p.1.2.2.2.2.2.2.2.1))))))) q.1.1 (fun(y:(Bool×Int))=>k (.bool y.1) [.box [.i y.2]]))
 (none)
def vdh (args:List AV)(st:St)(k:K1):Option Res:=
 val [.lst tTxn,.fn 42 [.bp 0 0]] [.box [.i]] args st (fun p q=>vo4 p.1 q.1.1 (fun(y:(Int×Int))=>k (.i y.1) [.box [.i y.2]]))
 (none)
def vc3 (args:List AV)(st:St)(k:K1):Option Res:=
 val [.own 0,.fn 42 [.bp 1 0]] [.dep tTxn 0,.box [.i]] args st (fun p q=>vsy q.1 q.2.1.1 (Sum.elim (fun(y:((List dTxn)×Int))=>k (.own 0) [.dep tTxn y.1 0 [],.box [.i y.2]]) (fun(y:(Int×(List dTxn)))=>k (.own 2) [.gone,.box [.i y.1],.dep tTxn y.2 0 []])))
 (none)
def wco (args:List AV)(st:St)(k:K1):Option Res:=
 val [.lst tVersion,.str,.i] [] args st (fun p q=>vre p.1 p.2.1 p.2.2.1 (fun(y:Int)=>k (.i y) []))
 (none)
def wb4 (args:List AV)(st:St)(k:K1):Option Res:=
 val [.str,.bp 0 0] [.box [.own 1],.arr tVersion] args st (fun p q=>vtc p.1 q.2.1 (fun(y:(Int×(List vaa)))=>k (.i y.1) [.box [.own 1],.arr tVersion y.2]))
 (none)
def wci (args:List AV)(st:St)(k:K1):Option Res:=
 val [.lst tVersion,.i] [] args st (fun p q=>vo6 p.1 p.2.1 (fun(y:(List vaa))=>k (.own 0) [.arr tVersion y]))
 (none)
def wc4 (args:List AV)(st:St)(k:K1):Option Res:=
 val [.agg [.lst tVersion,.lst tTxn,.lst tTxn,.i,.i],.lst tTxn] [] args st (fun p q=>vnx (p.1.1,(p.1.2.1,(p.1.2.2.1,(p.1.2.2.2.1,p.1.2.2.2.2.1)))) p.2.1 (fun(y:q26T)=>k (.agg [.own 0,.own 1,.own 2,.i y.1,.i y.2.1]) [.arr tVersion y.2.2.1,.dep tTxn y.2.2.2.1 0 [],.dep tTxn y.2.2.2.2 0 []]))
 (none)
def wch (args:List AV)(st:St)(k:K1):Option Res:=
 val [.agg [.str,.str,.bool,.i],.agg [.str,.str,.bool,.i]] [] args st (fun p q=>vub (p.1.1,(p.1.2.1,(p.1.2.2.1,p.1.2.2.2.1))) (p.2.1.1,(p.2.1.2.1,(p.2.1.2.2.1,p.2.1.2.2.2.1))) (fun(y:Bool)=>k (.bool y) []))
 (none)
def wcm (args:List AV)(st:St)(k:K1):Option Res:=
 val [.lst tVersion,.lst tVersion] [] args st (fun p q=>vt5 p.1 p.2.1 (fun(y:Bool)=>k (.bool y) []))
 (none)
def wbq (args:List AV)(st:St)(k:K1):Option Res:=
 val [.agg [.str,.str],.agg [.str,.str]] [] args st (fun p q=>vsq (p.1.1,p.1.2.1) (p.2.1.1,p.2.1.2.1) (fun(y:Bool)=>k (.bool y) []))
 (none)
def wda (args:List AV)(st:St)(k:K1):Option Res:=
 val [.lst tRange,.lst tRange] [] args st (fun p q=>vsu p.1 p.2.1 (fun(y:Bool)=>k (.bool y) []))
 (none)
def wbv (args:List AV)(st:St)(k:K1):Option Res:=
 val [.agg [.str,.str,.bool],.agg [.str,.str,.bool]] [] args st (fun p q=>vtb (p.1.1,(p.1.2.1,p.1.2.2.1)) (p.2.1.1,(p.2.1.2.1,p.2.1.2.2.1)) (fun(y:Bool)=>k (.bool y) []))
 (none)
def wcl (args:List AV)(st:St)(k:K1):Option Res:=
 val [.lst tWrite,.lst tWrite] [] args st (fun p q=>vt0 p.1 p.2.1 (fun(y:Bool)=>k (.bool y) []))
 (none)
def wc2 (args:List AV)(st:St)(k:K1):Option Res:=
 val [.agg [.i,.i,.i,.i,.lst tRange,.lst tWrite,.bool,.str],.agg [.i,.i,.i,.i,.lst tRange,.lst tWrite,.bool,.str]] [] args st (fun p q=>vpt (p.1.1,(p.1.2.1,(p.1.2.2.1,(p.1.2.2.2.1,(p.1.2.2.2.2.1,(p.1.2.2.2.2.2.1,(p.1.2.2.2.2.2.2.1,p.1.2.2.2.2.2.2.2.1))))))) (p.2.1.1,(p.2.1.2.1,(p.2.1.2.2.1,(p.2.1.2.2.2.1,(p.2.1.2.2.2.2.1,(p.2.1.2.2.2.2.2.1,(p.2.1.2.2.2.2.2.2.1,p.2.1.2.2.2.2.2.2.2.1))))))) (fun(y:Bool)=>k (.bool y) []))
 (none)
def wb1 (args:List AV)(st:St)(k:K1):Option Res:=
 val [.lst tTxn,.lst tTxn] [] args st (fun p q=>vkh p.1 p.2.1 (fun(y:Bool)=>k (.bool y) []))
 (none)
def wb6 (args:List AV)(st:St)(k:K1):Option Res:=
 val [.agg [.lst tVersion,.lst tTxn,.lst tTxn,.i,.i],.agg [.lst tVersion,.lst tTxn,.lst tTxn,.i,.i]] [] args st (fun p q=>ve2 (p.1.1,(p.1.2.1,(p.1.2.2.1,(p.1.2.2.2.1,p.1.2.2.2.2.1)))) (p.2.1.1,(p.2.1.2.1,(p.2.1.2.2.1,(p.2.1.2.2.2.1,p.2.1.2.2.2.2.1)))) (fun(y:Bool)=>k (.bool y) []))
 (none)
def wcj (args:List AV)(st:St)(k:K1):Option Res:=
 val [.i] [] args st (fun p q=>vbv p.1 (fun(y:ByteArray)=>k (.str y) []))
 (none)
def vew (args:List AV)(st:St)(k:K1):Option Res:=
 val [.own 0,.i] [.arr tVersion] args st (fun p q=>vx1 p.2.1 q.1 (fun(y:(Int×(List vaa)))=>k (.i y.1) [.arr tVersion y.2]))
 (none)
def vgl (args:List AV)(st:St)(k:K1):Option Res:=
 val [.own 0,.i] [.arr tRange] args st (fun p q=>vxp p.2.1 q.1 (fun(y:(Int×(List vaj)))=>k (.i y.1) [.arr tRange y.2]))
 (none)
def vgi (args:List AV)(st:St)(k:K1):Option Res:=
 val [.own 0,.i] [.arr tWrite] args st (fun p q=>vv3 p.2.1 q.1 (fun(y:(Int×(List vak)))=>k (.i y.1) [.arr tWrite y.2]))
 (none)
def vjh (args:List AV)(st:St)(k:K1):Option Res:=
 val [.own 0,.i] [.dep tTxn 0] args st (fun p q=>vlo p.2.1 q.1 (fun(y:(Int×(List dTxn)))=>k (.i y.1) [.dep tTxn y.2 0 []]))
 (none)
def vhy (args:List AV)(st:St)(k:K1):Option Res:=
 val [.agg [.own 0,.own 1,.own 2,.i,.i],.i] [.arr tVersion,.dep tTxn 0,.dep tTxn 0] args st (fun p q=>vlw p.1.2.2.2.1 p.1.2.2.2.2.1 p.2.1 q.1 q.2.1 q.2.2.1 (fun(y:q24T)=>k (.i y.1) [.arr tVersion y.2.1,.dep tTxn y.2.2.1 0 [],.dep tTxn y.2.2.2 0 []]))
 (none)
def wc0 (args:List AV)(st:St)(k:K1):Option Res:=
 val [.lst tVersion,.i] [] args st (fun p q=>vsc p.1 p.2.1 (fun(y:Int)=>k (.i y) []))
 (none)
def wcb (args:List AV)(st:St)(k:K1):Option Res:=
 val [.lst tRange,.i] [] args st (fun p q=>vp5 p.1 p.2.1 (fun(y:Int)=>k (.i y) []))
 (none)
def wcq (args:List AV)(st:St)(k:K1):Option Res:=
 val [.lst tWrite,.i] [] args st (fun p q=>vrl p.1 p.2.1 (fun(y:Int)=>k (.i y) []))
 (none)
def wcs (args:List AV)(st:St)(k:K1):Option Res:=
 val [.lst tTxn,.i] [] args st (fun p q=>vp1 p.1 p.2.1 (fun(y:Int)=>k (.i y) []))
 (none)
def wbt (args:List AV)(st:St)(k:K1):Option Res:=
 val [.agg [.lst tVersion,.lst tTxn,.lst tTxn,.i,.i],.i] [] args st (fun p q=>vlp (p.1.1,(p.1.2.1,(p.1.2.2.1,(p.1.2.2.2.1,p.1.2.2.2.2.1)))) p.2.1 (fun(y:Int)=>k (.i y) []))
 (none)
def v71 (args:List AV)(st:St)(k:K1):Option Res:=
 val [.agg [.lst tVersion,.lst tTxn,.lst tTxn,.i,.i],.lst tTxn] [] args st (fun p q=>vw6 (p.1.1,(p.1.2.1,(p.1.2.2.1,(p.1.2.2.2.1,p.1.2.2.2.2.1)))) p.2.1 (fun(y:Bool)=>k (.bool y) []))
 (none)
end
end Go.VE
